/- The words of memory in which all walks here are told: a slice that reads as a list of ints, or of pairs of ints; and how an argument opens to them. Plain theorems over any program. -/
import Derived.WalkKit
import Derived.ProofKit
import Derived.OpenShut
import Derived.Below
import Derived.Lib.SmallJoins
import Derived.Deep.Slices
import Derived.Deep.Fields
import Derived.ChangeSame
import Derived.Laws.OwnMore
import Derived.Deep.Draws
namespace Go.Proofs.YtblbfgoifaddiaaDoor
open Go.ChangeShapes Go.WideShapes Go.ChangeAt Go.RowKit Go.Joins Go.Deep
set_option linter.unusedVariables false

theorem below_drawn {B : Nat} {a w : World} (h : Below B a w) (n : Nat) : Below B a (w.drewN n) := ⟨h.os, h.tape, h.output, h.size, h.block⟩
/-- the slice at A reads as the ints xs; it lies below block B -/
def RdI (k : IntKind) (w : World) (B : Nat) (A : Option Addr) (xs : List Int) : Prop :=
  ∀ (j : Nat) (x : Int), xs[j]? = some x → ∃ b off, A = some ⟨b, off, none⟩ ∧ b < B ∧ w.cell? ⟨b, off + j, none⟩ = some (.int k x)
/-- the slice at A reads as the pairs xs; it lies below block B -/
def RdP (w : World) (B : Nat) (A : Option Addr) (xs : List (Int × Int)) : Prop :=
  ∀ (j : Nat) (x y : Int), xs[j]? = some (x, y) → ∃ b off, A = some ⟨b, off, none⟩ ∧ b < B ∧ w.cell? ⟨b, off + j * 2, none⟩ = some (.int .i64 x) ∧ w.cell? ⟨b, off + j * 2 + 1, none⟩ = some (.int .i64 y)

theorem add_none (b off i : Nat) : (⟨b, off, none⟩ : Addr).add i = ⟨b, off + i, none⟩ := by
  unfold Addr.add
  split
  · simp_all
  · rfl
theorem add_zero' (a : Addr) : a.add 0 = a := by simp [Addr.add]

def intsV (k : IntKind) (xs : List Int) : List Value := xs.map (.int k)
def pairsV : List (Int × Int) → List Value
  | [] => []
  | p :: r => .int .i64 p.1 :: .int .i64 p.2 :: pairsV r
theorem intsV_length (k : IntKind) (xs : List Int) : (intsV k xs).length = xs.length := by simp [intsV]
theorem pairsV_length (xs : List (Int × Int)) : (pairsV xs).length = xs.length * 2 := by
  induction xs with
  | nil => rfl
  | cons p r ih => simp only [pairsV, List.length_cons, ih]; omega
theorem pairsV_append (xs ys : List (Int × Int)) : pairsV (xs ++ ys) = pairsV xs ++ pairsV ys := by
  induction xs with
  | nil => rfl
  | cons p r ih => simp [pairsV, ih]
theorem pairsV_get {xs : List (Int × Int)} {j : Nat} {x y : Int} (h : xs[j]? = some (x, y)) : (pairsV xs)[j * 2]? = some (.int .i64 x) ∧ (pairsV xs)[j * 2 + 1]? = some (.int .i64 y) := by
  induction xs generalizing j with
  | nil => simp at h
  | cons p r ih =>
    cases j with
    | zero => simp at h; subst h; simp [pairsV]
    | succ j =>
      have := ih (j := j) (by simpa using h)
      rw [show (j + 1) * 2 = j * 2 + 1 + 1 by omega]
      simpa [pairsV] using this
theorem pairsV_set {xs : List (Int × Int)} {j : Nat} (x y : Int) (h : j < xs.length) : pairsV (xs.set j (x, y)) = ((pairsV xs).set (j * 2) (.int .i64 x)).set (j * 2 + 1) (.int .i64 y) := by
  induction xs generalizing j with
  | nil => simp at h
  | cons p r ih =>
    cases j with
    | zero => simp [pairsV]
    | succ j =>
      rw [show (j + 1) * 2 = j * 2 + 1 + 1 by omega]
      simp [pairsV, ih (j := j) (by simpa using h)]
theorem pairsV_one {xs : List (Int × Int)} : ∀ u ∈ pairsV xs, u.oneCell' = true := by
  induction xs with
  | nil => intro u hu; simp [pairsV] at hu
  | cons p r ih =>
    intro u hu
    simp only [pairsV, List.mem_cons] at hu
    rcases hu with rfl | rfl | hu
    · rfl
    · rfl
    · exact ih u hu
theorem pairsV_inj {xs ys : List (Int × Int)} (h : pairsV xs = pairsV ys) : xs = ys := by
  induction xs generalizing ys with
  | nil => cases ys with
    | nil => rfl
    | cons q s => simp [pairsV] at h
  | cons p r ih => cases ys with
    | nil => simp [pairsV] at h
    | cons q s =>
      simp only [pairsV, List.cons.injEq, Value.int.injEq, true_and] at h
      obtain ⟨h1, h2, h3⟩ := h
      rw [ih h3, Prod.ext h1 h2]

section
variable {w w' : World} {B B' : Nat} {A : Option Addr} {k : IntKind}
theorem RdI.nil : RdI k w B A [] := fun j x h => by simp at h
theorem RdP.nil : RdP w B A [] := fun j x y h => by simp at h
theorem RdI.keep {xs : List Int} (h : RdI k w B A xs) (hk : ∀ p : Addr, p.block < B → w'.cell? p = w.cell? p) (hB : B ≤ B') : RdI k w' B' A xs := fun j x hx => by
  obtain ⟨b, off, e, hb, hc⟩ := h j x hx
  exact ⟨b, off, e, by omega, (hk _ hb).trans hc⟩
theorem RdP.keep {xs : List (Int × Int)} (h : RdP w B A xs) (hk : ∀ p : Addr, p.block < B → w'.cell? p = w.cell? p) (hB : B ≤ B') : RdP w' B' A xs := fun j x y hx => by
  obtain ⟨b, off, e, hb, hc, hd⟩ := h j x y hx
  exact ⟨b, off, e, by omega, (hk _ hb).trans hc, (hk _ hb).trans hd⟩
theorem RdI.below {xs : List Int} (h : RdI k w B A xs) (hb : Below B w w') : RdI k w' B A xs := h.keep (fun p hp => hb.cell hp) (Nat.le_refl _)
theorem RdP.below {xs : List (Int × Int)} (h : RdP w B A xs) (hb : Below B w w') : RdP w' B A xs := h.keep (fun p hp => hb.cell hp) (Nat.le_refl _)
/-- read on in a later world, at that world's own size -/
theorem RdI.up {xs : List Int} (h : RdI k w B A xs) (hb : Below B w w') (hB : B ≤ B') : RdI k w' B' A xs := h.keep (fun p hp => hb.cell hp) hB
theorem RdP.up {xs : List (Int × Int)} (h : RdP w B A xs) (hb : Below B w w') (hB : B ≤ B') : RdP w' B' A xs := h.keep (fun p hp => hb.cell hp) hB
theorem RdI.of_own {base : Nat} {e : TypeId} {n c : Nat} {xs : List Int} (h : w.ownsRow base e 1 (.slice A n c) n (intsV k xs)) : RdI k w w.heap.size A xs := fun j x hx => by
  rcases h.2 with ⟨hv, h0⟩ | ⟨g, cap, cur, hv, _, hg, _⟩
  · have hl := h.1
    simp only [intsV, List.length_map] at hl
    have := (List.getElem?_eq_some_iff.1 hx).1
    omega
  · injection hv with hA _ _
    subst hA
    have hc := h.cells (g := g) rfl j (.int k x) (by simp [intsV, hx])
    have hlt := (h.lt g rfl).2
    rw [add_none] at hc
    exact ⟨g, 0, rfl, hlt, hc⟩
theorem RdP.of_own {base : Nat} {e : TypeId} {n c : Nat} {xs : List (Int × Int)} (h : w.ownsRow base e 2 (.slice A n c) n (pairsV xs)) : RdP w w.heap.size A xs := fun j x y hx => by
  rcases h.2 with ⟨hv, h0⟩ | ⟨g, cap, cur, hv, _, hg, _⟩
  · have hl := h.1
    rw [pairsV_length] at hl
    have := (List.getElem?_eq_some_iff.1 hx).1
    omega
  · injection hv with hA _ _
    subst hA
    obtain ⟨h1, h2⟩ := pairsV_get hx
    have hc := h.cells (g := g) rfl _ _ h1
    have hd := h.cells (g := g) rfl _ _ h2
    rw [add_none] at hc hd
    exact ⟨g, 0, rfl, (h.lt g rfl).2, hc, by rw [← hd]; rfl⟩
end

theorem own_below {w w1 : World} {base : Nat} {e : TypeId} {size n : Nat} {v : Value} {xs : List Value} (h : w.ownsRow base e size v n xs) (hb : Below w.heap.size w w1) : w1.ownsRow base e size v n xs :=
  h.kept (row := none) ⟨hb.os, hb.tape, hb.output, hb.size, fun k hk _ => hb.block k hk⟩ (by cases v.ownBlock <;> simp)
theorem madeP (n : Nat) : (madeCells (Value.agg #[.int .i64 0, .int .i64 0]).cells (n * 2)).toList = pairsV (List.replicate n (0, 0)) := by
  induction n with
  | zero => simp [madeCells, pairsV]
  | succ n ih =>
    have e : (n + 1) * 2 = n * 2 + 2 := by omega
    rw [e, List.replicate_succ', pairsV_append, ← ih]
    unfold madeCells
    rw [show n * 2 + 2 = (n * 2 + 1) + 1 by omega, Array.range_succ, Array.range_succ]
    simp [Value.cells, pairsV, Nat.add_mod]
theorem madeI (k : IntKind) (n : Nat) : (madeCells (Value.int k 0).cells (n * 1)).toList = intsV k (List.replicate n 0) := by
  rw [Nat.mul_one]
  have := toList_madeCells_one (.int k 0) n
  simpa [intsV, Value.cells] using this
/-- one round of filling a made row -/
theorem fill_step {α : Type} {xs : List α} {k n : Nat} {z q : α} (hl : xs.length = n) (hq : xs[k]? = some q) : (xs.take k ++ List.replicate (n - k) z).set k q = xs.take (k + 1) ++ List.replicate (n - (k + 1)) z := by
  have hk := (List.getElem?_eq_some_iff.1 hq).1
  have e : n - k = (n - (k + 1)) + 1 := by omega
  rw [List.take_add_one, hq, e, List.replicate_succ, List.set_append_right _ _ (by simp [List.length_take]; omega)]
  have : k - (xs.take k).length = 0 := by simp [List.length_take]; omega
  rw [this]
  simp
theorem own_set2 {w : World} {base : Nat} {e : TypeId} {g n c : Nat} {xs : List (Int × Int)} {k : Nat} {x y : Int} (h : w.ownsRow base e 2 (.slice (some ⟨g, 0, none⟩) n c) n (pairsV xs)) (hk : k < xs.length) :
    ((w.setCell ⟨g, k * 2, none⟩ (.int .i64 x)).setCell ⟨g, k * 2 + 1, none⟩ (.int .i64 y)).ownsRow base e 2 (.slice (some ⟨g, 0, none⟩) n c) n (pairsV (xs.set k (x, y))) := by
  rw [pairsV_set _ _ hk]
  exact ((h.stored (k * 2) _).1.stored (k * 2 + 1) _).1
theorem own_set1 {w : World} {base : Nat} {e : TypeId} {g n c : Nat} {kd : IntKind} {xs : List Int} {k : Nat} {x : Int} (h : w.ownsRow base e 1 (.slice (some ⟨g, 0, none⟩) n c) n (intsV kd xs)) :
    (w.setCell ⟨g, k, none⟩ (.int kd x)).ownsRow base e 1 (.slice (some ⟨g, 0, none⟩) n c) n (intsV kd (xs.set k x)) := by
  have := (h.stored k (.int kd x)).1
  rwa [show (intsV kd xs).set k (.int kd x) = intsV kd (xs.set k x) by simp [intsV, List.map_set]] at this
theorem own_far {w : World} {base : Nat} {e : TypeId} {size g n c : Nat} {xs : List Value} (h : w.ownsRow base e size (.slice (some ⟨g, 0, none⟩) n c) n xs) (p : Addr) (hne : g ≠ p.block) (u : Value) : (w.setCell p u).ownsRow base e size (.slice (some ⟨g, 0, none⟩) n c) n xs :=
  h.kept (row := some p.block) ⟨rfl, rfl, rfl, by simp, fun k _ hk => Below.heap_setCell w p u k (fun e => hk (by rw [e]))⟩ (.inr (by simpa [Value.ownBlock] using hne))
theorem own_drew {w : World} {base : Nat} {e : TypeId} {size n : Nat} {v : Value} {xs : List Value} (h : w.ownsRow base e size v n xs) : w.drew.ownsRow base e size v n xs := h
theorem own_drewN {w : World} {base : Nat} {e : TypeId} {size n : Nat} {v : Value} {xs : List Value} (h : w.ownsRow base e size v n xs) (k : Nat) : (w.drewN k).ownsRow base e size v n xs := h
/-! ### what a contract that ends in 'Below' gives to the walk -/
theorem bcell {B : Nat} {W w1 : World} (hb : Below B W w1) : (∀ b o, b < B → w1.cell? ⟨b, o, none⟩ = W.cell? ⟨b, o, none⟩) ∧ (∀ b o, b < B → w1.frozen? ⟨b, o, none⟩ = W.frozen? ⟨b, o, none⟩) :=
  ⟨fun b o h => hb.cell (p := ⟨b, o, none⟩) h, fun b o h => hb.frozen (p := ⟨b, o, none⟩) h⟩

theorem below_boxed {w w1 : World} {o : Obj} (h : Below (w.alloc o).heap.size (w.alloc o) w1) : Below w.heap.size w w1 :=
  ((Below.refl _ _).alloc (Nat.le_refl _) o).trans (h.mono (by simp))
theorem below_next {w w1 w2 : World} (h : Below w.heap.size w w1) (k : Below w1.heap.size w1 w2) : Below w.heap.size w w2 := h.trans (k.mono h.size)
theorem own_other {w w' : World} {base g : Nat} {e : TypeId} {size n : Nat} {v : Value} {xs : List Value} (h : w.ownsRow base e size v n xs) (hg : w.grownBy w' (some g)) (hne : ∀ k, v.ownBlock = some k → k ≠ g) : w'.ownsRow base e size v n xs :=
  h.kept hg (by cases hv : v.ownBlock with
    | none => exact .inl rfl
    | some k => exact .inr (fun e => hne k hv (by injection e)))
/-- what a function returns that makes a new slice of pairs, or of ints: a row of its own that reads as L; what was there before stays -/
def PairsRow (E : TypeId) (L : List (Int × Int)) (w : World) (e : Ending) (w' : World) : Prop :=
  ∃ A c, e = .returned (.slice A L.length c) ∧ w'.ownsRow w.heap.size E 2 (.slice A L.length c) L.length (pairsV L) ∧ Below w.heap.size w w'
def IntsRow (E : TypeId) (L : List Int) (w : World) (e : Ending) (w' : World) : Prop :=
  ∃ A c, e = .returned (.slice A L.length c) ∧ w'.ownsRow w.heap.size E 1 (.slice A L.length c) L.length (intsV .i64 L) ∧ Below w.heap.size w w'
theorem own_lower {w : World} {base base' : Nat} {e : TypeId} {size n : Nat} {v : Value} {xs : List Value} (h : w.ownsRow base e size v n xs) (hb : base' ≤ base) : w.ownsRow base' e size v n xs :=
  ⟨h.1, h.2.imp id fun ⟨g, cap, cur, a1, a2, a3⟩ => ⟨g, cap, cur, a1, by omega, a3⟩⟩
theorem PairsRow.mk {E : TypeId} {L : List (Int × Int)} {w w' : World} {A : Option Addr} {n c base : Nat} (hn : L.length = n) (hb : w.heap.size ≤ base) (h : w'.ownsRow base E 2 (.slice A n c) n (pairsV L)) (hbel : Below w.heap.size w w') : PairsRow E L w (.returned (.slice A n c)) w' := by
  subst hn
  exact ⟨A, c, rfl, own_lower h hb, hbel⟩
theorem IntsRow.mk {E : TypeId} {L : List Int} {w w' : World} {A : Option Addr} {n c base : Nat} (hn : L.length = n) (hb : w.heap.size ≤ base) (h : w'.ownsRow base E 1 (.slice A n c) n (intsV .i64 L)) (hbel : Below w.heap.size w w') : IntsRow E L w (.returned (.slice A n c)) w' := by
  subst hn
  exact ⟨A, c, rfl, own_lower h hb, hbel⟩
theorem PairsRow.nil {E : TypeId} {w w' : World} (hbel : Below w.heap.size w w') : PairsRow E [] w (.returned (.slice none 0 0)) w' := ⟨none, 0, rfl, World.ownsRow_nil _ _ _ _, hbel⟩
theorem IntsRow.nil {E : TypeId} {w w' : World} (hbel : Below w.heap.size w w') : IntsRow E [] w (.returned (.slice none 0 0)) w' := ⟨none, 0, rfl, World.ownsRow_nil _ _ _ _, hbel⟩
/-! ### arguments opened -/
section
variable {H : Type} {enc : TypeId × Value → H} {P : Program} {w : World} {base : Nat} {spare : Nat → Bool} {held : Bool}
theorem chosen {α : Type} [Inhabited α] {n : Nat} {p : Nat → α → Prop} (h : ∀ i, i < n → ∃ x, p i x) : ∃ xs : List α, xs.length = n ∧ ∀ i x, xs[i]? = some x → p i x := by
  refine ⟨(List.range n).map fun i => if hi : i < n then Classical.choose (h i hi) else default, by simp, fun i x hx => ?_⟩
  obtain ⟨hi, rfl⟩ := List.getElem?_eq_some_iff.1 hx
  have hi' : i < n := by simpa using hi
  simp only [List.getElem_map, List.getElem_range, hi', dite_true]
  exact Classical.choose_spec (h i hi')

theorem open_pair {r : Reach} {b0 : Nat} {t : TypeId} {f0 f1 : Field} {v : Value} {d : DataW H} {p : List MemPlace} (hs : P.underlying t = some (.struct #[f0, f1])) (hone : oneCellFields P #[f0, f1] = true) (hC : P.cellsOf t = 2)
    (h0 : P.underlying f0.type = some (.int .i64)) (h1 : P.underlying f1.type = some (.int .i64)) (hv : Value.okWide P w r b0 t v) (h : DataW.Trod enc P w base spare held t v d p) :
    ∃ a b : Int, v = .agg #[.int .i64 a, .int .i64 b] ∧ (Lit.int .i64 a).wf = true ∧ (Lit.int .i64 b).wf = true := by
  obtain ⟨v0, v1, y0, y1, n, rfl, _, _, g0, g1⟩ := open_agg2 hs hone hC hv h
  obtain ⟨a, e0, _, wa⟩ := DataW.trod_int h0 g0
  obtain ⟨b, e1, _, wb⟩ := DataW.trod_int h1 g1
  simp only [List.cons.injEq, and_true] at e0 e1
  subst e0 e1
  exact ⟨a, b, rfl, wa, wb⟩

theorem open_rd_ints {r : Reach} {b0 : Nat} {t e : TypeId} {k : IntKind} {v : Value} {d : DataW H} {p : List MemPlace} (ht : P.underlying t = some (.slice e)) (he : P.underlying e = some (.int k)) (hc : P.cellsOf e = 1)
    (hv : Value.okWide P w r b0 t v) (h : DataW.Trod enc P w base (fun _ => true) held t v d p) (hlt : ∀ x ∈ p, x.block < w.heap.size) :
    ∃ (A : Option Addr) (n c : Nat) (xs : List Int), v = .slice A n c ∧ xs.length = n ∧ RdI k w w.heap.size A xs ∧ n ≤ maxLen ∧ ∀ x ∈ xs, (Lit.int k x).wf = true := by
  obtain ⟨A, n, c, rfl⟩ := okWide_slice ht hv
  obtain ⟨fuel, hf⟩ := h
  rcases open_ints ht he hc hf with ⟨hcs, _⟩ | ⟨x, l, c', zs, hcs, _, hl, hm, hz, _, hcell, hwz⟩
  · simp [Value.cells] at hcs
    obtain ⟨rfl, rfl, rfl⟩ := hcs
    exact ⟨none, 0, 0, [], rfl, rfl, RdI.nil, Nat.zero_le _, fun x hx => by simp at hx⟩
  · simp [Value.cells] at hcs
    obtain ⟨rfl, rfl, rfl⟩ := hcs
    simp only [if_true] at hz
    refine ⟨some x, n, c, zs.take n, rfl, by simp; omega, fun j u hu => ?_, by omega, fun u hu => hwz u (List.mem_of_mem_take hu)⟩
    rw [List.getElem?_take] at hu
    split at hu
    · rename_i hj
      have hj2 : j < zs.length := by omega
      have hcj := hcell j hj2
      have hspot := World.cell?_spot (hcell 0 (by omega))
      rw [add_zero'] at hspot
      obtain ⟨b, off, spot⟩ := x
      simp only at hspot
      subst hspot
      rw [add_none] at hcj
      have hg : zs.getD j 0 = u := by rw [List.getD_eq_getElem?_getD, hu]; rfl
      rw [hg] at hcj
      exact ⟨b, off, rfl, World.block_lt_of_cell? w _ hcj, hcj⟩
    · cases hu
theorem open_rd_bytes {r : Reach} {b0 : Nat} {t e : TypeId} {v : Value} {d : DataW H} {p : List MemPlace} (ht : P.underlying t = some (.slice e)) (he : P.underlying e = some (.int .u8)) (hc : P.cellsOf e = 1)
    (hv : Value.okWide P w r b0 t v) (h : DataW.Trod enc P w base (fun _ => true) held t v d p) (hlt : ∀ x ∈ p, x.block < w.heap.size) :
    ∃ (A : Option Addr) (n c : Nat) (xs : List Int), v = .slice A n c ∧ xs.length = n ∧ RdI .u8 w w.heap.size A xs ∧ n ≤ maxLen ∧ ∀ x ∈ xs, (Lit.int .u8 x).wf = true := open_rd_ints ht he hc hv h hlt

theorem open_rd_pairs {r : Reach} {b0 : Nat} {t e : TypeId} {f0 f1 : Field} {v : Value} {d : DataW H} {p : List MemPlace} (ht : P.underlying t = some (.slice e)) (hs : P.underlying e = some (.struct #[f0, f1])) (hone : oneCellFields P #[f0, f1] = true) (hC : P.cellsOf e = 2)
    (h0 : P.underlying f0.type = some (.int .i64)) (h1 : P.underlying f1.type = some (.int .i64)) (hv : Value.okWide P w r b0 t v) (h : DataW.Trod enc P w base (fun _ => true) held t v d p) (hlt : ∀ x ∈ p, x.block < w.heap.size) :
    ∃ (A : Option Addr) (n c : Nat) (xs : List (Int × Int)), v = .slice A n c ∧ xs.length = n ∧ RdP w w.heap.size A xs ∧ n ≤ maxLen ∧ ∀ x ∈ xs, (Lit.int .i64 x.1).wf = true ∧ (Lit.int .i64 x.2).wf = true := by
  obtain ⟨A, n, c, rfl⟩ := okWide_slice ht hv
  obtain ⟨fuel, hf⟩ := h
  rcases open_slice ht hf with ⟨hcs, _⟩ | ⟨a, len, cap, m, fu, D, Pl, hcs, _, hl, hm, hmm, _, hi⟩
  · simp [Value.cells] at hcs
    obtain ⟨rfl, rfl, rfl⟩ := hcs
    exact ⟨none, 0, 0, [], rfl, rfl, RdP.nil, Nat.zero_le _, fun x hx => by simp at hx⟩
  · simp [Value.cells] at hcs
    obtain ⟨rfl, rfl, rfl⟩ := hcs
    simp only [if_true] at hmm
    have hmm' := hmm
    clear hmm
    have each0 : ∀ i, i < n → ∃ q : Int × Int, w.cell? (a.add (i * 2)) = some (.int .i64 q.1) ∧ w.cell? ((a.add (i * 2)).add 1) = some (.int .i64 q.2) ∧ (Lit.int .i64 q.1).wf = true ∧ (Lit.int .i64 q.2).wf = true := fun i hin => by
      obtain ⟨cs', hc, ht'⟩ := hi i (by omega)
      rw [hC] at hc
      obtain ⟨ys, n', _, _, hlen, hyl, hfd⟩ := DataW.trod_struct hs ht'
      obtain ⟨_, hcl, hat⟩ := World.cells?_some hc
      match cs', hcl with
      | [c0, c1], _ =>
        obtain ⟨o0, k0⟩ := hone_of hone 0 f0 rfl
        obtain ⟨o1, k1⟩ := hone_of hone 1 f1 rfl
        match ys, hyl with
        | [y0, y1], _ =>
          have g0 := hfd 0 f0 rfl
          have g1 := hfd 1 f1 rfl
          rw [o0, k0] at g0
          rw [o1, k1] at g1
          obtain ⟨x, e0, _, wx⟩ := DataW.trod_int h0 (by simpa using g0)
          obtain ⟨y, e1, _, wy⟩ := DataW.trod_int h1 (by simpa using g1)
          simp only [List.cons.injEq, and_true] at e0 e1
          subst e0 e1
          have c0' := hat 0 (by omega)
          have c1' := hat 1 (by omega)
          simp only [List.getElem?_cons_zero, List.getElem?_cons_succ] at c0' c1'
          rw [add_zero'] at c0'
          exact ⟨(x, y), c0', c1', wx, wy⟩
    have each : ∀ i, i < n → ∃ q : Int × Int, ∃ b off, a = ⟨b, off, none⟩ ∧ b < w.heap.size ∧ w.cell? ⟨b, off + i * 2, none⟩ = some (.int .i64 q.1) ∧ w.cell? ⟨b, off + i * 2 + 1, none⟩ = some (.int .i64 q.2) ∧ (Lit.int .i64 q.1).wf = true ∧ (Lit.int .i64 q.2).wf = true := fun i hin => by
      obtain ⟨q0, s0, _⟩ := each0 0 (by omega)
      have hspot := World.cell?_spot s0
      rw [Nat.zero_mul, add_zero'] at hspot
      obtain ⟨q, s1, s2, s3⟩ := each0 i hin
      obtain ⟨b, off, spot⟩ := a
      simp only at hspot
      subst hspot
      rw [add_none] at s1
      rw [add_none, add_none] at s2
      exact ⟨q, b, off, rfl, World.block_lt_of_cell? w _ s1, s1, s2, s3⟩
    obtain ⟨xs, hlx, hx⟩ := chosen each
    refine ⟨some a, n, c, xs, rfl, hlx, fun j x y hj => ?_, by omega, fun q hq => ?_⟩
    · obtain ⟨b, off, e, hb, hc, hd, _⟩ := hx j (x, y) hj
      exact ⟨b, off, by rw [e], hb, hc, hd⟩
    · obtain ⟨j, hj⟩ := List.getElem?_of_mem hq
      obtain ⟨b, off, e, hb, hc, hd, h2⟩ := hx j q hj
      exact h2
end
end Go.Proofs.YtblbfgoifaddiaaDoor
