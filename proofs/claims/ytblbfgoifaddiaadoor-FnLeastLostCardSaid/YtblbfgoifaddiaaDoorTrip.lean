/- A slice that reads as a list of triples of ints; rows of triples of one call's own; boxes. Plain theorems over any program. -/
import Derived.Test.YtblbfgoifaddiaaDoorMem
import Derived.Test.YtblbfgoifaddiaaDoorAppend
import Derived.Test.YtblbfgoifaddiaaDoorAppW
import Derived.KernelRfl
namespace Go.Proofs.YtblbfgoifaddiaaDoor
open Go.RowKit
set_option linter.unusedVariables false
/-- the slice at A reads as the triples xs; it lies below block B -/
def RdT (w : World) (B : Nat) (A : Option Addr) (xs : List (Int × Int × Int)) : Prop :=
  ∀ (j : Nat) (x y z : Int), xs[j]? = some (x, y, z) → ∃ b off, A = some ⟨b, off, none⟩ ∧ b < B ∧ w.cell? ⟨b, off + j * 3, none⟩ = some (.int .i64 x) ∧ w.cell? ⟨b, off + j * 3 + 1, none⟩ = some (.int .i64 y) ∧ w.cell? ⟨b, off + j * 3 + 2, none⟩ = some (.int .i64 z)
def tripV : List (Int × Int × Int) → List Value
  | [] => []
  | p :: r => .int .i64 p.1 :: .int .i64 p.2.1 :: .int .i64 p.2.2 :: tripV r
theorem tripV_length (xs : List (Int × Int × Int)) : (tripV xs).length = xs.length * 3 := by
  induction xs with
  | nil => rfl
  | cons p r ih => simp only [tripV, List.length_cons, ih]; omega
theorem tripV_append (xs ys : List (Int × Int × Int)) : tripV (xs ++ ys) = tripV xs ++ tripV ys := by
  induction xs with
  | nil => rfl
  | cons p r ih => simp [tripV, ih]
theorem tripV_get {xs : List (Int × Int × Int)} {j : Nat} {x y z : Int} (h : xs[j]? = some (x, y, z)) : (tripV xs)[j * 3]? = some (.int .i64 x) ∧ (tripV xs)[j * 3 + 1]? = some (.int .i64 y) ∧ (tripV xs)[j * 3 + 2]? = some (.int .i64 z) := by
  induction xs generalizing j with
  | nil => simp at h
  | cons p r ih =>
    cases j with
    | zero => simp at h; subst h; simp [tripV]
    | succ j =>
      have := ih (j := j) (by simpa using h)
      rw [show (j + 1) * 3 = j * 3 + 1 + 1 + 1 by omega]
      simpa [tripV] using this
theorem tripV_one {xs : List (Int × Int × Int)} : ∀ u ∈ tripV xs, u.oneCell' = true := by
  induction xs with
  | nil => intro u hu; simp [tripV] at hu
  | cons p r ih =>
    intro u hu
    simp only [tripV, List.mem_cons] at hu
    rcases hu with rfl | rfl | rfl | hu
    · rfl
    · rfl
    · rfl
    · exact ih u hu
section
variable {w w' : World} {B B' : Nat} {A : Option Addr}
theorem RdT.nil : RdT w B A [] := fun j x y z h => by simp at h
theorem RdT.keep {xs : List (Int × Int × Int)} (h : RdT w B A xs) (hk : ∀ p : Addr, p.block < B → w'.cell? p = w.cell? p) (hB : B ≤ B') : RdT w' B' A xs := fun j x y z hx => by
  obtain ⟨b, off, e, hb, hc, hd, hf⟩ := h j x y z hx
  exact ⟨b, off, e, by omega, (hk _ hb).trans hc, (hk _ hb).trans hd, (hk _ hb).trans hf⟩
theorem RdT.below {xs : List (Int × Int × Int)} (h : RdT w B A xs) (hb : Below B w w') : RdT w' B A xs := h.keep (fun p hp => hb.cell hp) (Nat.le_refl _)
theorem RdT.up {xs : List (Int × Int × Int)} (h : RdT w B A xs) (hb : Below B w w') (hB : B ≤ B') : RdT w' B' A xs := h.keep (fun p hp => hb.cell hp) hB
theorem RdT.drewN {xs : List (Int × Int × Int)} (h : RdT w w.heap.size A xs) (k : Nat) : RdT (w.drewN k) (w.drewN k).heap.size A xs := h
theorem own_trip {base g n c : Nat} {e : TypeId} {L : List (Int × Int × Int)} (h : w.ownsRow base e 3 (.slice (some ⟨g, 0, none⟩) n c) n (tripV L)) {k : Nat} {x y z : Int} (hk : L[k]? = some (x, y, z)) :
    w.cell? ⟨g, k * 3, none⟩ = some (.int .i64 x) ∧ w.cell? ⟨g, k * 3 + 1, none⟩ = some (.int .i64 y) ∧ w.cell? ⟨g, k * 3 + 2, none⟩ = some (.int .i64 z) := by
  obtain ⟨h1, h2, h3⟩ := tripV_get hk
  have c1 := h.cells (g := g) rfl _ _ h1
  have c2 := h.cells (g := g) rfl _ _ h2
  have c3 := h.cells (g := g) rfl _ _ h3
  rw [add_none, Nat.zero_add] at c1 c2 c3
  exact ⟨c1, c2, c3⟩
theorem RdT.of_own {base : Nat} {e : TypeId} {n c : Nat} {xs : List (Int × Int × Int)} (h : w.ownsRow base e 3 (.slice A n c) n (tripV xs)) : RdT w w.heap.size A xs := fun j x y z hx => by
  rcases h.2 with ⟨hv, h0⟩ | ⟨g, cap, cur, hv, _, hg, _⟩
  · have hl := h.1
    rw [tripV_length] at hl
    have := (List.getElem?_eq_some_iff.1 hx).1
    omega
  · injection hv with hA _ _
    subst hA
    obtain ⟨h1, h2, h3⟩ := own_trip h hx
    refine ⟨g, 0, rfl, (h.lt g rfl).2, ?_, ?_, ?_⟩
    · rw [Nat.zero_add]; exact h1
    · rw [Nat.zero_add]; exact h2
    · rw [Nat.zero_add]; exact h3
end
theorem madeT (n : Nat) : (madeCells (Value.agg #[.int .i64 0, .int .i64 0, .int .i64 0]).cells (n * 3)).toList = tripV (List.replicate n (0, 0, 0)) := by
  induction n with
  | zero => simp [madeCells, tripV]
  | succ n ih =>
    have e : (n + 1) * 3 = n * 3 + 3 := by omega
    rw [e, List.replicate_succ', tripV_append, ← ih]
    unfold madeCells
    rw [show n * 3 + 3 = ((n * 3 + 1) + 1) + 1 by omega, Array.range_succ, Array.range_succ, Array.range_succ]
    simp [Value.cells, tripV, Nat.add_mod]
theorem news_trip {w : World} {gl : Nat} {e : TypeId} {p q r : Int} (h : Newest w gl e #[.int .i64 p, .int .i64 q, .int .i64 r]) : ∀ j u, (tripV [(p, q, r)])[j]? = some u → w.cell? ((⟨gl, 0, none⟩ : Addr).add j) = some u := by
  have h0 : w.cell? ⟨gl, 0, none⟩ = some (.int .i64 p) := by rw [cell_of_row w _ 0 _ e (0, 0) h]; rfl
  have h1 : w.cell? ⟨gl, 1, none⟩ = some (.int .i64 q) := by rw [cell_of_row w _ 1 _ e (0, 0) h]; rfl
  have h2 : w.cell? ⟨gl, 2, none⟩ = some (.int .i64 r) := by rw [cell_of_row w _ 2 _ e (0, 0) h]; rfl
  intro j u hu
  rw [add_none]
  match j, hu with
  | 0, hu => simp [tripV] at hu; subst hu; simpa using h0
  | 1, hu => simp [tripV] at hu; subst hu; simpa using h1
  | 2, hu => simp [tripV] at hu; subst hu; simpa using h2
  | j + 3, hu => simp [tripV] at hu
/-- what a function returns that makes a new slice of triples: a row of its own that reads as L; what was there before stays -/
def TripRow (E : TypeId) (L : List (Int × Int × Int)) (w : World) (e : Ending) (w' : World) : Prop :=
  ∃ A c, e = .returned (.slice A L.length c) ∧ w'.ownsRow w.heap.size E 3 (.slice A L.length c) L.length (tripV L) ∧ Below w.heap.size w w'
/-- block b is a box that holds vs -/
structure BX (w : World) (b : Nat) (vs : List Value) : Prop where
  lt : b < w.heap.size
  at_ : ∀ j v, vs[j]? = some v → w.cell? ⟨b, j, none⟩ = some v
  fz : ∀ j, w.frozen? ⟨b, j, none⟩ = false
theorem BX.of_block {w w' : World} {b : Nat} {vs : List Value} (h : BX w b vs) (hb : w'.heap[b]? = w.heap[b]?) (hs : w.heap.size ≤ w'.heap.size) : BX w' b vs :=
  ⟨Nat.lt_of_lt_of_le h.lt hs, fun j v hv => (World.cell?_of_block hb).trans (h.at_ j v hv), fun j => (World.frozen?_of_block hb).trans (h.fz j)⟩
theorem BX.below {w w' : World} {b B : Nat} {vs : List Value} (h : BX w b vs) (hb : Below B w w') (hB : b < B) : BX w' b vs := h.of_block (hb.block b hB) hb.size
theorem BX.alloc {w : World} {b : Nat} {vs : List Value} (h : BX w b vs) (o : Obj) : BX (w.alloc o) b vs := h.below ((Below.refl w.heap.size w).alloc (Nat.le_refl _) o) h.lt
theorem BX.drew {w : World} {b : Nat} {vs : List Value} (h : BX w b vs) : BX w.drew b vs := ⟨h.lt, h.at_, h.fz⟩
theorem BX.drewN {w : World} {b : Nat} {vs : List Value} (h : BX w b vs) (k : Nat) : BX (w.drewN k) b vs := ⟨h.lt, h.at_, h.fz⟩
end Go.Proofs.YtblbfgoifaddiaaDoor
