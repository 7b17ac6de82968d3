/- Plain law: great ones first: the list of strands that is made want by want, by descending lengths. -/
import Derived.Test.YtblbfgoifaddiaaDoorStrFn
import Derived.Test.YtblbfgoifaddiaaDoorFitClose
namespace Go.Proofs.YtblbfgoifaddiaaDoor
set_option linter.unusedVariables false
theorem snocInd {α : Type} {P : List α → Prop} (h0 : P []) (hs : ∀ xs x, P xs → P (xs ++ [x])) (xs : List α) : P xs := by
  have : ∀ ys : List α, P ys.reverse := fun ys => by
    induction ys with
    | nil => exact h0
    | cons a t ih => rw [List.reverse_cons]; exact hs _ _ ih
  have h := this xs.reverse
  rwa [List.reverse_reverse] at h
/-! ### the order: by descending lengths, those with the same in their order -/
def Ahead (ws : List Int) (i j : Nat) : Prop := wF ws j < wF ws i ∨ (wF ws j = wF ws i ∧ i < j)
theorem Ahead.asymm {ws : List Int} {i j : Nat} (h : Ahead ws i j) (h' : Ahead ws j i) : False := by unfold Ahead at h h'; omega
theorem Ahead.irrefl {ws : List Int} {i : Nat} (h : Ahead ws i i) : False := by unfold Ahead at h; omega
theorem Ahead.ge {ws : List Int} {i j : Nat} (h : Ahead ws i j) : wF ws j ≤ wF ws i := by unfold Ahead at h; omega
theorem ord_unique {ws : List Int} : ∀ {l1 l2 : List Nat}, l1.Pairwise (Ahead ws) → l2.Pairwise (Ahead ws) → (∀ i, i ∈ l1 ↔ i ∈ l2) → l1 = l2 := by
  intro l1
  induction l1 with
  | nil =>
    intro l2 _ _ h
    cases l2 with
    | nil => rfl
    | cons b t => have := (h b).2 (by simp); simp at this
  | cons a t ih =>
    intro l2 h1 h2 h
    cases l2 with
    | nil => have := (h a).1 (by simp); simp at this
    | cons b t2 =>
      obtain ⟨p1, p2⟩ := List.pairwise_cons.1 h1
      obtain ⟨q1, q2⟩ := List.pairwise_cons.1 h2
      have hab : a = b := by
        rcases List.mem_cons.1 ((h a).1 (by simp)) with e | e
        · exact e
        · rcases List.mem_cons.1 ((h b).2 (by simp)) with e' | e'
          · exact e'.symm
          · exact absurd (q1 a e) (fun x => (p1 b e').asymm x)
      subst hab
      have : t = t2 := ih p2 q2 fun i => by
        constructor
        · intro hi
          rcases List.mem_cons.1 ((h i).1 (List.mem_cons_of_mem _ hi)) with e | e
          · subst e; exact absurd (p1 i hi) Ahead.irrefl
          · exact e
        · intro hi
          rcases List.mem_cons.1 ((h i).2 (List.mem_cons_of_mem _ hi)) with e | e
          · subst e; exact absurd (q1 i hi) Ahead.irrefl
          · exact e
      rw [this]
/-- the first k indices, in order -/
def OrdTo (ws : List Int) (k : Nat) (l : List Nat) : Prop := l.Pairwise (Ahead ws) ∧ ∀ i, i ∈ l ↔ i < k
theorem OrdTo.zero (ws : List Int) : OrdTo ws 0 [] := ⟨List.Pairwise.nil, fun i => by simp⟩
theorem OrdTo.unique {ws : List Int} {k : Nat} {l1 l2 : List Nat} (h1 : OrdTo ws k l1) (h2 : OrdTo ws k l2) : l1 = l2 := ord_unique h1.1 h2.1 fun i => by rw [h1.2 i, h2.2 i]
theorem OrdTo.nodup {ws : List Int} {k : Nat} {l : List Nat} (h : OrdTo ws k l) : l.Nodup := h.1.imp fun hab e => by subst e; exact hab.irrefl
theorem OrdTo.length {ws : List Int} {k : Nat} {l : List Nat} (h : OrdTo ws k l) : l.length = k := by
  have hp : l.Perm (List.range k) := (List.perm_ext_iff_of_nodup h.nodup List.nodup_range).2 fun i => by rw [h.2 i, List.mem_range]
  rw [hp.length_eq, List.length_range]
/-- the next one put in behind all that are as long -/
theorem OrdTo.insert {ws : List Int} {k j : Nat} {l : List Nat} (h : OrdTo ws k l) (hj : ∀ i ∈ l.take j, wF ws k ≤ wF ws i) (hd : ∀ i ∈ l.drop j, wF ws i < wF ws k) : OrdTo ws (k + 1) (l.take j ++ k :: l.drop j) := by
  have hp := h.1
  rw [← List.take_append_drop j l, List.pairwise_append] at hp
  obtain ⟨a, b, c⟩ := hp
  refine ⟨?_, fun i => ?_⟩
  · rw [List.pairwise_append]
    refine ⟨a, List.pairwise_cons.2 ⟨fun i hi => .inl (hd i hi), b⟩, fun x hx y hy => ?_⟩
    rcases List.mem_cons.1 hy with e | e
    · subst e
      have h1 := hj x hx
      have h2 := (h.2 x).1 (List.mem_of_mem_take hx)
      unfold Ahead; omega
    · exact c x hx y e
  · have hm := h.2 i
    rw [← List.take_append_drop j l] at hm
    simp only [List.mem_append, List.mem_cons] at hm ⊢
    constructor
    · rintro (e | e | e)
      · have := hm.1 (.inl e); omega
      · omega
      · have := hm.1 (.inr e); omega
    · intro hi
      by_cases e : i = k
      · exact .inr (.inl e)
      · rcases hm.2 (by omega) with e | e
        · exact .inl e
        · exact .inr (.inr e)
theorem ord_exists (ws : List Int) (k : Nat) : ∃ l, OrdTo ws k l := by
  induction k with
  | zero => exact ⟨[], OrdTo.zero ws⟩
  | succ k ih =>
    obtain ⟨l, hl⟩ := ih
    have : ∃ j, (∀ i ∈ l.take j, wF ws k ≤ wF ws i) ∧ ∀ i ∈ l.drop j, wF ws i < wF ws k := by
      have hp := hl.1
      clear hl
      induction l with
      | nil => exact ⟨0, by simp, by simp⟩
      | cons a t ih =>
        obtain ⟨p1, p2⟩ := List.pairwise_cons.1 hp
        by_cases h : wF ws k ≤ wF ws a
        · obtain ⟨j, h1, h2⟩ := ih p2
          refine ⟨j + 1, fun i hi => ?_, by simpa using h2⟩
          rcases List.mem_cons.1 (by simpa using hi) with e | e
          · subst e; exact h
          · exact h1 i e
        · refine ⟨0, by simp, fun i hi => ?_⟩
          rcases List.mem_cons.1 (by simpa using hi) with e | e
          · subst e; omega
          · have := (p1 i e).ge; omega
    obtain ⟨j, h1, h2⟩ := this
    exact ⟨_, hl.insert h1 h2⟩
/-! ### first fit -/
/-- the first strand on which there is enough left -/
def ffS (L : Int) (cut : List Int) (x : Int) : Nat := cut.findIdx fun c => decide (c + x ≤ L)
def ffStep (ws : List Int) (L : Int) (st : List Int × (Nat → Nat)) (k : Nat) : List Int × (Nat → Nat) :=
  (st.1.set (ffS L st.1 (wF ws k)) (st.1.getD (ffS L st.1 (wF ws k)) 0 + wF ws k), fun i => if i = k then ffS L st.1 (wF ws k) else st.2 i)
def ffRun (ws : List Int) (L : Int) (o : List Nat) : List Int × (Nat → Nat) := o.foldl (ffStep ws L) (List.replicate ws.length 0, fun _ => 0)
theorem ffRun_snoc (ws : List Int) (L : Int) (o : List Nat) (k : Nat) : ffRun ws L (o ++ [k]) = ffStep ws L (ffRun ws L o) k := by unfold ffRun; rw [List.foldl_append]; rfl
def memB (o : List Nat) (i : Nat) : Bool := decide (i ∈ o)
/-- what the sums of the strands are behind the wants of o -/
structure FFI (ws : List Int) (L : Int) (o : List Nat) (st : List Int × (Nat → Nat)) : Prop where
  len : st.1.length = ws.length
  at_ : ∀ s, s < ws.length → st.1[s]? = some (load ws.length (wF ws) (memB o) st.2 s)
  le : ∀ s, s < ws.length → load ws.length (wF ws) (memB o) st.2 s ≤ L
  far : ∀ s, o.length ≤ s → s < ws.length → load ws.length (wF ws) (memB o) st.2 s = 0
  bin : ∀ i, i ∈ o → st.2 i < ws.length
section
variable {ws : List Int} {L : Int} {o : List Nat} {st : List Int × (Nat → Nat)} {k : Nat}
theorem ffs_lt (h : FFI ws L o st) (hw : wantsOk ws L = true) (hk : k < ws.length) (ho : o.length < ws.length) : ffS L st.1 (wF ws k) ≤ o.length ∧ ffS L st.1 (wF ws k) < ws.length := by
  have h1 := (wants_fits hw k hk).2
  have h2 := h.at_ o.length ho
  rw [h.far o.length (Nat.le_refl _) ho] at h2
  have hlt : o.length < st.1.length := by rw [h.len]; exact ho
  have hle : ffS L st.1 (wF ws k) ≤ o.length := by
    refine Nat.le_of_not_lt fun hgt => ?_
    have := List.not_of_lt_findIdx (p := fun c => decide (c + wF ws k ≤ L)) (xs := st.1) (i := o.length) hgt
    rw [(List.getElem?_eq_some_iff.1 h2).2] at this
    simp at this; omega
  exact ⟨hle, by omega⟩
theorem ffs_fits (hlt : ffS L st.1 (wF ws k) < st.1.length) {c : Int} (hc : st.1[ffS L st.1 (wF ws k)]? = some c) : c + wF ws k ≤ L := by
  have := List.findIdx_getElem (p := fun c => decide (c + wF ws k ≤ L)) (xs := st.1) (w := hlt)
  have e := (List.getElem?_eq_some_iff.1 hc).2
  exact (congrArg (fun t => t + wF ws k ≤ L) e).mp (of_decide_eq_true this)
theorem ffs_before {b : Nat} (hb : b < ffS L st.1 (wF ws k)) {c : Int} (hc : st.1[b]? = some c) : L < c + wF ws k := by
  have := List.not_of_lt_findIdx (p := fun c => decide (c + wF ws k ≤ L)) (xs := st.1) (i := b) hb
  rw [(List.getElem?_eq_some_iff.1 hc).2] at this
  simp at this; omega
/-- found by going on from the first strand -/
theorem ffs_is {j : Nat} {c : Int} (hb : ∀ b c', b < j → st.1[b]? = some c' → L < c' + wF ws k) (hc : st.1[j]? = some c) (hf : c + wF ws k ≤ L) : ffS L st.1 (wF ws k) = j := by
  have hj := (List.getElem?_eq_some_iff.1 hc).1
  rcases Nat.lt_trichotomy (ffS L st.1 (wF ws k)) j with h | h | h
  · have hlt : ffS L st.1 (wF ws k) < st.1.length := by omega
    have := ffs_fits hlt (List.getElem?_eq_getElem hlt)
    have := hb _ _ h (List.getElem?_eq_getElem hlt)
    omega
  · exact h
  · have := ffs_before h hc; omega
theorem FFI.zero (ws : List Int) {L : Int} (hL : 0 ≤ L) : FFI ws L [] (ffRun ws L []) := by
  have e : ∀ f s, load ws.length (wF ws) (memB []) f s = 0 := fun f s => by
    unfold load
    rw [sm_congr (h := fun _ => 0), sm_zero]
    intro i hi
    simp [memB]
  refine ⟨by simp [ffRun], fun s hs => ?_, fun s hs => by rw [e]; exact hL, fun s _ hs => e _ _, fun i hi => by simp at hi⟩
  rw [e]; simp [ffRun, hs]
theorem FFI.step (h : FFI ws L o st) (hw : wantsOk ws L = true) (hk : k < ws.length) (hn : k ∉ o) (ho : o.length < ws.length) : FFI ws L (o ++ [k]) (ffStep ws L st k) := by
  obtain ⟨h1, h2⟩ := ffs_lt h hw hk ho
  have hs := h.at_ _ h2
  have hf := ffs_fits (by rw [h.len]; exact h2) hs
  have hput : ∀ b, load ws.length (wF ws) (memB (o ++ [k])) (ffStep ws L st k).2 b = load ws.length (wF ws) (memB o) st.2 b + (if ffS L st.1 (wF ws k) = b then wF ws k else 0) := fun b =>
    load_put (S := memB (o ++ [k])) (T := memB o) hk (by simp [memB]) (fun i hi => by
      by_cases e : i = k
      · subst e; simp [memB, hn]
      · simp [memB, e])
  refine ⟨by simp [ffStep, h.len], fun s hs' => ?_, fun s hs' => ?_, fun s hs1 hs2 => ?_, fun i hi => ?_⟩
  · rw [hput]
    simp only [ffStep]
    by_cases e : ffS L st.1 (wF ws k) = s
    · rw [if_pos e, e, List.getElem?_set_self (by rw [h.len]; exact hs'), List.getD_eq_getElem?_getD, h.at_ s hs']; rfl
    · rw [if_neg e, List.getElem?_set_ne e, h.at_ s hs', Int.add_zero]
  · rw [hput]
    by_cases e : ffS L st.1 (wF ws k) = s
    · rw [if_pos e, ← e]; exact hf
    · rw [if_neg e, Int.add_zero]; exact h.le s hs'
  · rw [List.length_append, List.length_singleton] at hs1
    rw [hput, if_neg (by omega), h.far s (by omega) hs2]; rfl
  · simp only [ffStep]
    by_cases e : i = k
    · rw [if_pos e]; exact h2
    · rw [if_neg e]
      rcases List.mem_append.1 hi with h' | h'
      · exact h.bin i h'
      · simp at h'; exact absurd h' e
end
/-- the state behind each part of the order -/
theorem ffi_run {ws : List Int} {L : Int} (hw : wantsOk ws L = true) : ∀ (o : List Nat), o.Nodup → (∀ i ∈ o, i < ws.length) → o.length ≤ ws.length → FFI ws L o (ffRun ws L o) := by
  intro o
  refine snocInd (P := fun o => o.Nodup → (∀ i ∈ o, i < ws.length) → o.length ≤ ws.length → FFI ws L o (ffRun ws L o)) ?_ ?_ o
  · intro _ _ _
    exact FFI.zero ws (by have := wantsOk_len hw; omega)
  · intro o k ih h1 h2 h3
    rw [List.nodup_append] at h1
    rw [List.length_append, List.length_singleton] at h3
    rw [ffRun_snoc]
    exact (ih h1.1 (fun i hi => h2 i (by simp [hi])) (by omega)).step hw (h2 k (by simp)) (fun hk => h1.2.2 k hk k (by simp) rfl) (by omega)
/-- the list of strands -/
def fitRow (ws : List Int) (L : Int) (o : List Nat) : List Int := (List.range ws.length).map fun i => ((ffRun ws L o).2 i : Int)
theorem fitRow_len (ws : List Int) (L : Int) (o : List Nat) : (fitRow ws L o).length = ws.length := by simp [fitRow]
theorem fitRow_get {ws : List Int} {L : Int} {o : List Nat} {i : Nat} (h : i < ws.length) : (fitRow ws L o)[i]? = some (((ffRun ws L o).2 i : Nat) : Int) := by simp [fitRow, h]
/-- xs is the list of strands; none for wants that are not valid -/
def FitIs (ws : List Int) (L : Int) (xs : List Int) : Prop := (wantsOk ws L = false ∧ xs = []) ∨ (wantsOk ws L = true ∧ ∃ o, OrdTo ws ws.length o ∧ xs = fitRow ws L o)
theorem fit_exists (ws : List Int) (L : Int) : ∃ xs, FitIs ws L xs := by
  cases h : wantsOk ws L
  · exact ⟨[], .inl ⟨h, rfl⟩⟩
  · obtain ⟨o, ho⟩ := ord_exists ws ws.length
    exact ⟨_, .inr ⟨h, o, ho, rfl⟩⟩
theorem FitIs.no {ws : List Int} {L : Int} {xs : List Int} (h : FitIs ws L xs) (hw : wantsOk ws L = false) : xs = [] := by
  rcases h with ⟨_, h⟩ | ⟨h, _⟩
  · exact h
  · rw [hw] at h; cases h
theorem FitIs.yes {ws : List Int} {L : Int} {xs : List Int} {o : List Nat} (h : FitIs ws L xs) (hw : wantsOk ws L = true) (ho : OrdTo ws ws.length o) : xs = fitRow ws L o := by
  rcases h with ⟨h, _⟩ | ⟨_, o', ho', rfl⟩
  · rw [hw] at h; cases h
  · rw [ho.unique ho']
theorem FitIs.len {ws : List Int} {L : Int} {xs : List Int} (h : FitIs ws L xs) (hw : wantsOk ws L = true) : xs.length = ws.length := by
  obtain ⟨o, ho⟩ := ord_exists ws ws.length
  rw [h.yes hw ho, fitRow_len]
theorem FitIs.le {ws : List Int} {L : Int} {xs : List Int} (h : FitIs ws L xs) : xs.length ≤ 8 := by
  cases hw : wantsOk ws L
  · rw [h.no hw]; simp
  · rw [h.len hw]; exact (wantsOk_len hw).1
theorem ffi_full {ws : List Int} {L : Int} {o : List Nat} (hw : wantsOk ws L = true) (ho : OrdTo ws ws.length o) : FFI ws L o (ffRun ws L o) :=
  ffi_run hw o ho.nodup (fun i hi => (ho.2 i).1 hi) (Nat.le_of_eq ho.length)
theorem FitIs.ok {ws : List Int} {L : Int} {xs : List Int} (h : FitIs ws L xs) (hw : wantsOk ws L = true) : strandsOk ws L xs = true := by
  obtain ⟨o, ho⟩ := ord_exists ws ws.length
  rw [h.yes hw ho]
  have hf := ffi_full hw ho
  refine strandsOk_mk hw (fitRow_len _ _ _) ?_ fun s hs => ?_
  · rw [List.all_eq_true]
    intro p hp
    obtain ⟨i, hi, rfl⟩ := List.mem_map.1 hp
    have hi' := List.mem_range.1 hi
    have := hf.bin i ((ho.2 i).2 hi')
    exact inB_true (by omega) (by omega)
  · rw [sumAt_sm _ (Nat.le_refl _) (by rw [fitRow_len]; exact Nat.le_refl _)]
    refine Int.le_trans (Int.le_of_eq (sm_congr fun i hi => ?_)) (hf.le s hs)
    rw [fitRow_get hi]
    have : memB o i = true := by simp [memB, ho.2 i, hi]
    by_cases e : (ffRun ws L o).2 i = s
    · subst e; rw [if_pos rfl, if_pos ⟨this, rfl⟩]
    · rw [if_neg (by simp; omega), if_neg (fun h => e h.2)]
/-- so many different strands at most -/
theorem many_le {ps : List Int} {X : Nat} (h : ∀ (k : Nat) (p : Int), ps[k]? = some p → 0 ≤ p ∧ p < X) : ∀ k, k ≤ ps.length → manyTo ps k ≤ X := by
  have key : ∀ k, k ≤ ps.length → manyTo ps k = sm X (fun s => if hasI (ps.take k) (s : Int) then 1 else 0) := by
    intro k
    induction k with
    | zero =>
      intro _
      rw [sm_congr (h := fun _ => 0), sm_zero]; rfl
      intro i hi
      simp [hasI]
    | succ k ih =>
      intro hk
      have ih := ih (by omega)
      obtain ⟨p, hp⟩ : ∃ p, ps[k]? = some p := ⟨_, List.getElem?_eq_getElem (by omega)⟩
      obtain ⟨hp0, hp1⟩ := h k p hp
      obtain ⟨P, rfl⟩ : ∃ P : Nat, p = (P : Int) := ⟨p.toNat, by omega⟩
      have hmem : ∀ s : Nat, hasI (ps.take (k + 1)) (s : Int) = (hasI (ps.take k) (s : Int) || decide (s = P)) := fun s => by
        unfold hasI
        rw [List.take_add_one, hp, Bool.eq_iff_iff]
        simp only [List.contains_iff_mem, Option.toList_some, List.mem_append, List.mem_singleton, Bool.or_eq_true, decide_eq_true_eq]
        constructor
        · rintro (a | a)
          · exact .inl a
          · exact .inr (by omega)
        · rintro (a | a)
          · exact .inl a
          · exact .inr (by omega)
      cases hc : hasI (ps.take k) (P : Int)
      · rw [manyTo_new hp hc, ih]
        have e : sm X (fun s => if s = P then (1 : Int) else 0) = 1 := sm_one (by omega)
        have : sm X (fun s => if hasI (ps.take (k + 1)) (s : Int) then (1 : Int) else 0) = sm X (fun s => (if hasI (ps.take k) (s : Int) then (1 : Int) else 0) + (if s = P then 1 else 0)) := sm_congr fun s hs => by
          rw [hmem]
          by_cases e : s = P
          · subst e; simp [hc]
          · simp [e]
        rw [this, sm_add, e]
      · rw [manyTo_old hp hc, ih]
        refine sm_congr fun s hs => ?_
        rw [hmem]
        by_cases e : s = P
        · subst e; simp [hc]
        · simp [e]
  intro k hk
  rw [key k hk]
  have : sm X (fun s => if hasI (ps.take k) (s : Int) then (1 : Int) else 0) ≤ sm X (fun _ => 1) := sm_le fun i hi => by split <;> omega
  rw [sm_const] at this
  omega
/-- what comes later leaves a want on its strand -/
theorem ffRun_later (ws : List Int) (L : Int) (o : List Nat) (i : Nat) : ∀ (o2 : List Nat) (st : List Int × (Nat → Nat)), i ∉ o2 → (o2.foldl (ffStep ws L) st).2 i = st.2 i := by
  intro o2
  induction o2 with
  | nil => intro st _; rfl
  | cons a t ih =>
    intro st h
    rw [List.foldl_cons, ih _ (fun hh => h (List.mem_cons_of_mem _ hh))]
    have hne : i ≠ a := fun e => h (by rw [e]; simp)
    simp [ffStep, hne]
/-- no want stands beyond the strand behind the least number -/
theorem fit_bins {ws : List Int} {L : Int} {o : List Nat} {m : Nat} (hw : wantsOk ws L = true) (ho : OrdTo ws ws.length o) (hp : Packs ws.length (wF ws) L (fun _ => true) m) {i : Nat} (hi : i < ws.length) : (ffRun ws L o).2 i ≤ m ∧ (m = 1 → (ffRun ws L o).2 i = 0) := by
  have hmem := (ho.2 i).2 hi
  obtain ⟨o1, o2, rfl⟩ := List.append_of_mem hmem
  have hpw := ho.1
  have hnd := ho.nodup
  rw [List.pairwise_append] at hpw
  rw [List.nodup_append] at hnd
  obtain ⟨n1, n2, n3⟩ := hnd
  have hi2 : i ∉ o2 := (List.nodup_cons.1 n2).1
  have hi1 : i ∉ o1 := fun h => n3 i h i (by simp) rfl
  have hlen := ho.length
  rw [List.length_append, List.length_cons] at hlen
  have hf := ffi_run hw o1 n1 (fun j hj => (ho.2 j).1 (by simp [hj])) (by omega)
  obtain ⟨s1, s2⟩ := ffs_lt hf hw hi (by omega)
  have hbin : (ffRun ws L (o1 ++ i :: o2)).2 i = ffS L (ffRun ws L o1).1 (wF ws i) := by
    have e : ffRun ws L (o1 ++ i :: o2) = o2.foldl (ffStep ws L) (ffStep ws L (ffRun ws L o1) i) := by unfold ffRun; rw [List.foldl_append]; rfl
    rw [e, ffRun_later ws L o1 i o2 _ hi2]
    simp [ffStep]
  rw [hbin]
  have hge : ∀ j, j < ws.length → memB o1 j = true → wF ws i ≤ wF ws j := fun j hj hm => by
    have : j ∈ o1 := by simpa [memB] using hm
    exact (hpw.2.2 j this i (by simp)).ge
  have hfull : ∀ b, b < ffS L (ffRun ws L o1).1 (wF ws i) → L < load ws.length (wF ws) (memB o1) (ffRun ws L o1).2 b + wF ws i := fun b hb => ffs_before hb (hf.at_ b (by omega))
  have hS : memB o1 i = false := by simp [memB, hi1]
  constructor
  · refine Nat.le_of_not_lt fun hgt => ?_
    exact fit_close (wantsOk_len hw).1 (wants_fits hw) hi hS hge (fun b hb => ⟨hfull b (by omega), hf.le b (by omega)⟩) hp
  · intro h1
    subst h1
    refine Nat.eq_zero_of_not_pos fun hpos => ?_
    have h0 := hfull 0 hpos
    have ht := hp.tot_le
    have : load ws.length (wF ws) (memB o1) (ffRun ws L o1).2 0 + wF ws i ≤ tot ws.length (wF ws) (fun _ => true) := by
      unfold load tot
      have e : sm ws.length (fun j => if j = i then wF ws i else 0) = wF ws i := sm_one hi
      rw [← e, ← sm_add]
      refine sm_le fun j hj => ?_
      have := (wants_fits hw j hj).1
      by_cases ej : j = i
      · subst ej; simp [hS]
      · simp only [ej, if_false, if_true]; split <;> omega
    omega
/-- nine times as many strands are at most eleven times the least number, and six -/
theorem fit_best {ws : List Int} {L v : Int} {xs : List Int} (h : FitIs ws L xs) (hw : wantsOk ws L = true) (hv : SLeast ws L v) : 9 * strandsMany ws L xs ≤ 11 * v + 6 := by
  obtain ⟨o, ho⟩ := ord_exists ws ws.length
  have hok := h.ok hw
  rw [strandsMany_ok hok, h.yes hw ho]
  rcases hv with ⟨a, _⟩ | ⟨_, m, rfl, hm⟩
  · rw [hw] at a; cases a
  have hget : ∀ (k : Nat) (p : Int), (fitRow ws L o)[k]? = some p → ∃ i, i < ws.length ∧ p = (((ffRun ws L o).2 i : Nat) : Int) := fun k p hp => by
    have hk := (List.getElem?_eq_some_iff.1 hp).1
    rw [fitRow_len] at hk
    rw [fitRow_get hk] at hp
    exact ⟨k, hk, by injection hp with e; exact e.symm⟩
  have h1 := many_le (ps := fitRow ws L o) (X := m + 1) (fun k p hp => by
    obtain ⟨i, hi, rfl⟩ := hget k p hp
    have := (fit_bins hw ho hm.1 hi).1
    omega) (fitRow ws L o).length (Nat.le_refl _)
  by_cases m1 : m = 1
  · have h2 := many_le (ps := fitRow ws L o) (X := 1) (fun k p hp => by
      obtain ⟨i, hi, rfl⟩ := hget k p hp
      have := (fit_bins hw ho hm.1 hi).2 m1
      omega) (fitRow ws L o).length (Nat.le_refl _)
    omega
  by_cases m0 : m = 0
  · subst m0
    have : ws.length = 0 := by
      refine Nat.eq_zero_of_not_pos fun hpos => ?_
      have := hm.1.pos hpos rfl; omega
    have hl := fitRow_len ws L o
    have hb := manyTo_bounds (fitRow ws L o) (fitRow ws L o).length
    omega
  omega
end Go.Proofs.YtblbfgoifaddiaaDoor
