/- Slices of slices of ints: read as rows; and tables of one call's own, whose rows lie apart from one another. Plain theorems over any program. -/
import Derived.Test.YtblbfgoifaddiaaDoorMem
import Derived.Test.YtblbfgoifaddiaaDoorAppend
import Derived.Test.YtblbfgoifaddiaaDoorAppW
import Derived.Test.YtblbfgoifaddiaaDoorOwnApart
import Derived.Test.YtblbfgoifaddiaaDoorSz
namespace Go.Proofs.YtblbfgoifaddiaaDoor
open Go.RowKit
set_option linter.unusedVariables false
/-- the slice at A reads as these rows; it and they lie below block B -/
def RdR (w : World) (B : Nat) (A : Option Addr) (rows : List (List Int)) : Prop :=
  ∀ (j : Nat) (r : List Int), rows[j]? = some r → ∃ b off, A = some ⟨b, off, none⟩ ∧ b < B ∧ ∃ (A' : Option Addr) (c' : Nat), w.cell? ⟨b, off + j, none⟩ = some (.slice A' r.length c') ∧ RdI .i64 w B A' r
section
variable {w w' : World} {B B' : Nat} {A : Option Addr} {rows : List (List Int)}
theorem RdR.keep (h : RdR w B A rows) (hk : ∀ p : Addr, p.block < B → w'.cell? p = w.cell? p) (hB : B ≤ B') : RdR w' B' A rows := fun j r hr => by
  obtain ⟨b, off, e, hb, A', c', hc, hd⟩ := h j r hr
  exact ⟨b, off, e, by omega, A', c', (hk _ hb).trans hc, hd.keep hk hB⟩
theorem RdR.below (h : RdR w B A rows) (hb : Below B w w') : RdR w' B A rows := h.keep (fun p hp => hb.cell hp) (Nat.le_refl _)
theorem RdR.up (h : RdR w B A rows) (hb : Below B w w') (hB : B ≤ B') : RdR w' B' A rows := h.keep (fun p hp => hb.cell hp) hB
theorem RdR.drewN (h : RdR w w.heap.size A rows) (k : Nat) : RdR (w.drewN k) (w.drewN k).heap.size A rows := h
end
/-- a table of one's own: an outer row of slices of element type E, and the rows -/
structure Tab (w : World) (base : Nat) (T E : TypeId) (v : Value) (N : Nat) (vs : List Value) (rows : List (List Int)) : Prop where
  own : w.ownsRow base T 1 v N vs
  len : rows.length = N
  row : ∀ (j : Nat) (u : Value) (r : List Int), vs[j]? = some u → rows[j]? = some r → w.ownsRow base E 1 u r.length (intsV .i64 r)
  apart : ∀ (i j : Nat) (u u' : Value), i ≠ j → vs[i]? = some u → vs[j]? = some u' → ApartV u u'
section
variable {w w' : World} {base N : Nat} {T E : TypeId} {v : Value} {vs : List Value} {rows : List (List Int)}
theorem Tab.vlen (h : Tab w base T E v N vs rows) : vs.length = N := by have := h.own.1; omega
theorem Tab.nil (w : World) (base : Nat) (T E : TypeId) : Tab w base T E (.slice none 0 0) 0 [] [] :=
  ⟨World.ownsRow_nil _ _ _ _, rfl, fun j u r hu => by simp at hu, fun i j u u' _ hu => by simp at hu⟩
/-- nothing of the table is touched -/
theorem Tab.kept (h : Tab w base T E v N vs rows) {row : Option Nat} (hg : w.grownBy w' row) (hv : ∀ k, row = some k → v.ownBlock ≠ some k) (hr : ∀ k, row = some k → ∀ (j : Nat) (u : Value), vs[j]? = some u → u.ownBlock ≠ some k) : Tab w' base T E v N vs rows :=
  ⟨h.own.kept hg (by
    cases hb : v.ownBlock with
    | none => exact .inl rfl
    | some k => exact .inr (fun e => hv k e.symm hb)), h.len, fun j u r hu hrj => (h.row j u r hu hrj).kept hg (by
    cases hb : u.ownBlock with
    | none => exact .inl rfl
    | some k => exact .inr (fun e => hr k e.symm j u hu hb)), h.apart⟩
theorem Tab.next (h : Tab w base T E v N vs rows) (hb : Below w.heap.size w w') : Tab w' base T E v N vs rows :=
  ⟨own_below h.own hb, h.len, fun j u r hu hrj => own_below (h.row j u r hu hrj) hb, h.apart⟩
theorem Tab.alloc (h : Tab w base T E v N vs rows) (o : Obj) : Tab (w.alloc o) base T E v N vs rows := h.next ((Below.refl _ w).alloc (Nat.le_refl _) o)
theorem Tab.drewN (h : Tab w base T E v N vs rows) (k : Nat) : Tab (w.drewN k) base T E v N vs rows :=
  ⟨own_drewN h.own k, h.len, fun j u r hu hrj => own_drewN (h.row j u r hu hrj) k, h.apart⟩
theorem Tab.drew (h : Tab w base T E v N vs rows) : Tab w.drew base T E v N vs rows :=
  ⟨own_drew h.own, h.len, fun j u r hu hrj => own_drew (h.row j u r hu hrj), h.apart⟩
theorem Tab.get (h : Tab w base T E v N vs rows) {j : Nat} (hj : j < N) : ∃ u r, vs[j]? = some u ∧ rows[j]? = some r :=
  ⟨_, _, List.getElem?_eq_getElem (by rw [h.vlen]; exact hj), List.getElem?_eq_getElem (by rw [h.len]; exact hj)⟩
/-- the outer cell -/
theorem Tab.cell {g n c : Nat} (h : Tab w base T E (.slice (some ⟨g, 0, none⟩) n c) N vs rows) (hn : n = N) {j : Nat} {u : Value} (hu : vs[j]? = some u) : w.cell? ⟨g, j, none⟩ = some u := by
  have hc := h.own.cells (g := g) (by subst hn; rfl) j u hu
  rw [add_none] at hc
  simpa using hc
theorem Tab.form (h : Tab w base T E v N vs rows) {j : Nat} {u : Value} {r : List Int} (hu : vs[j]? = some u) (hr : rows[j]? = some r) : ∃ A c, u = .slice A r.length c := by
  rcases (h.row j u r hu hr).2 with ⟨hv, h0⟩ | ⟨g, cap, cur, hv, _⟩
  · exact ⟨none, 0, by rw [hv, h0]⟩
  · exact ⟨_, cap, hv⟩
/-- the outer block is none of the rows' -/
theorem Tab.outer (h : Tab w base T E v N vs rows) (hTE : T ≠ E) {j : Nat} {u : Value} {r : List Int} (hu : vs[j]? = some u) (hr : rows[j]? = some r) {k : Nat} (hk : v.ownBlock = some k) : u.ownBlock ≠ some k :=
  own_ne h.own (h.row j u r hu hr) hTE hk
/-- one more row -/
theorem Tab.grow (h : Tab w base T E v N vs rows) (hTE : T ≠ E) {v' : Value} {u : Value} {r : List Int} (hg : w.grownBy w' v.ownBlock) (ho : w'.ownsRow base T 1 v' (N + 1) (vs ++ [u])) (hu : w.ownsRow base E 1 u r.length (intsV .i64 r))
    (hap : ∀ (j : Nat) (u' : Value), vs[j]? = some u' → ApartV u' u) : Tab w' base T E v' (N + 1) (vs ++ [u]) (rows ++ [r]) := by
  have hvl := h.vlen
  have hrl := h.len
  refine ⟨ho, by rw [List.length_append, h.len]; rfl, fun j u' r' hu' hr' => ?_, fun i j a b hij ha hb => ?_⟩
  · by_cases e : j < N
    · rw [List.getElem?_append_left (by omega)] at hu' hr'
      exact (h.row j u' r' hu' hr').kept hg (by
        cases hb : u'.ownBlock with
        | none => exact .inl rfl
        | some k => exact .inr (fun e => h.outer hTE hu' hr' e.symm hb))
    · have hl := (List.getElem?_eq_some_iff.1 hu').1
      simp at hl
      have : j = N := by omega
      subst this
      rw [List.getElem?_append_right (by omega)] at hu' hr'
      rw [hvl, Nat.sub_self] at hu'
      rw [hrl, Nat.sub_self] at hr'
      simp at hu' hr'
      subst hu' hr'
      exact hu.kept hg (by
        cases hb : u.ownBlock with
        | none => exact .inl rfl
        | some k => exact .inr (fun e => own_ne h.own hu hTE e.symm hb))
  · by_cases ei : i < N
    · rw [List.getElem?_append_left (by omega)] at ha
      by_cases ej : j < N
      · rw [List.getElem?_append_left (by omega)] at hb
        exact h.apart i j a b hij ha hb
      · have hl := (List.getElem?_eq_some_iff.1 hb).1
        simp at hl
        have : j = N := by omega
        subst this
        rw [List.getElem?_append_right (by omega), hvl, Nat.sub_self] at hb
        simp at hb
        subst hb
        exact hap i a ha
    · have hl := (List.getElem?_eq_some_iff.1 ha).1
      simp at hl
      have : i = N := by omega
      subst this
      rw [List.getElem?_append_right (by omega), hvl, Nat.sub_self] at ha
      simp at ha
      subst ha
      by_cases ej : j < i
      · rw [List.getElem?_append_left (by omega)] at hb
        exact (hap j b hb).symm
      · have hl2 := (List.getElem?_eq_some_iff.1 hb).1
        simp at hl2
        exact absurd (show i = j by omega) hij
/-- a store into a row -/
theorem Tab.put (h : Tab w base T E v N vs rows) (hTE : T ≠ E) {j g n c : Nat} {r : List Int} (hu : vs[j]? = some (.slice (some ⟨g, 0, none⟩) n c)) (hr : rows[j]? = some r) (k : Nat) (x : Int) : Tab (w.setCell ⟨g, k, none⟩ (.int .i64 x)) base T E v N vs (rows.set j (r.set k x)) := by
  have hown := h.row j _ r hu hr
  obtain ⟨A1, c1, hform⟩ := h.form hu hr
  injection hform with hA1 hn hc1
  subst hn
  have hg : w.grownBy (w.setCell ⟨g, k, none⟩ (.int .i64 x)) (some g) := ⟨rfl, rfl, rfl, by simp, fun i _ hi => Below.heap_setCell w ⟨g, k, none⟩ (.int .i64 x) i (fun e => hi (by rw [e]))⟩
  refine ⟨h.own.kept hg ?_, by rw [List.length_set]; exact h.len, fun i u' r' hu' hr' => ?_, h.apart⟩
  · cases hb : v.ownBlock with
    | none => exact .inl rfl
    | some q => exact .inr (fun e => h.outer hTE hu hr hb (by injection e with e; rw [e]; rfl))
  · by_cases e : j = i
    · subst e
      rw [hu] at hu'
      injection hu' with hu'
      subst hu'
      have hl := (List.getElem?_eq_some_iff.1 hr).1
      rw [List.getElem?_set_self hl] at hr'
      injection hr' with hr'
      subst hr'
      rw [List.length_set]
      exact own_set1 hown
    · rw [List.getElem?_set_ne e] at hr'
      exact (h.row i u' r' hu' hr').kept hg (by
        cases hb : u'.ownBlock with
        | none => exact .inl rfl
        | some q => exact .inr (fun e2 => h.apart j i _ u' e hu hu' g rfl (by injection e2 with e2; rw [hb, e2])))
/-- another row is put in a row's place -/
theorem Tab.setRow {g n c : Nat} (h : Tab w base T E (.slice (some ⟨g, 0, none⟩) n c) n vs rows) (hTE : T ≠ E) {j : Nat} {u : Value} {r : List Int} (hu : w.ownsRow base E 1 u r.length (intsV .i64 r)) (hap : ∀ (i : Nat) (u' : Value), vs[i]? = some u' → ApartV u' u) : Tab (w.setCell ⟨g, j, none⟩ u) base T E (.slice (some ⟨g, 0, none⟩) n c) n (vs.set j u) (rows.set j r) := by
  have hg : w.grownBy (w.setCell ⟨g, j, none⟩ u) (some g) := ⟨rfl, rfl, rfl, by simp, fun i _ hi => Below.heap_setCell w ⟨g, j, none⟩ u i (fun e => hi (by rw [e]))⟩
  refine ⟨(h.own.stored j u).1, by rw [List.length_set]; exact h.len, fun i u' r' hu' hr' => ?_, fun i i2 a b hij ha hb => ?_⟩
  · by_cases e : j = i
    · subst e
      have hl1 := (List.getElem?_eq_some_iff.1 hu').1
      have hl2 := (List.getElem?_eq_some_iff.1 hr').1
      rw [List.length_set] at hl1 hl2
      rw [List.getElem?_set_self hl1] at hu'
      rw [List.getElem?_set_self hl2] at hr'
      injection hu' with hu'
      injection hr' with hr'
      subst hu' hr'
      exact hu.kept hg (by
        cases hb : u.ownBlock with
        | none => exact .inl rfl
        | some q => exact .inr (fun e2 => own_ne h.own hu hTE (k := g) rfl (by injection e2 with e2; rw [hb, e2])))
    · rw [List.getElem?_set_ne e] at hu' hr'
      exact (h.row i u' r' hu' hr').kept hg (by
        cases hb : u'.ownBlock with
        | none => exact .inl rfl
        | some q => exact .inr (fun e2 => h.outer hTE hu' hr' (k := g) rfl (by injection e2 with e2; rw [hb, e2])))
  · by_cases e1 : j = i
    · subst e1
      have hl1 := (List.getElem?_eq_some_iff.1 ha).1
      rw [List.length_set] at hl1
      rw [List.getElem?_set_self hl1] at ha
      injection ha with ha
      subst ha
      rw [List.getElem?_set_ne hij] at hb
      exact (hap i2 b hb).symm
    · rw [List.getElem?_set_ne e1] at ha
      by_cases e2 : j = i2
      · subst e2
        have hl1 := (List.getElem?_eq_some_iff.1 hb).1
        rw [List.length_set] at hl1
        rw [List.getElem?_set_self hl1] at hb
        injection hb with hb
        subst hb
        exact hap i a ha
      · rw [List.getElem?_set_ne e2] at hb
        exact h.apart i i2 a b hij ha hb
theorem RdR.of_tab {A : Option Addr} {c : Nat} (h : Tab w base T E (.slice A N c) N vs rows) : RdR w w.heap.size A rows := fun j r hr => by
  have hj : j < N := by have := (List.getElem?_eq_some_iff.1 hr).1; rw [h.len] at this; exact this
  obtain ⟨u, r', hu, hr'⟩ := h.get hj
  obtain rfl : r' = r := by rw [hr] at hr'; injection hr' with hr'; exact hr'.symm
  obtain ⟨A1, c1, rfl⟩ := h.form hu hr
  rcases h.own.2 with ⟨hv, h0⟩ | ⟨g, cap, cur, hv, hb, hg, _⟩
  · omega
  · injection hv with hA _ _
    subst hA
    exact ⟨g, 0, rfl, (h.own.lt g rfl).2, A1, c1, by rw [Nat.zero_add]; exact h.cell rfl hu, RdI.of_own (h.row j _ r' hu hr)⟩
end
end Go.Proofs.YtblbfgoifaddiaaDoor
