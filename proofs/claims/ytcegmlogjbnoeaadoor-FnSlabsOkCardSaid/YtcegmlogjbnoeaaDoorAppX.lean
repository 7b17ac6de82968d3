/- Parts of a row of pairs, as cells. -/
import Derived.Test.YtcegmlogjbnoeaaDoorAppW
namespace Go.Proofs.YtcegmlogjbnoeaaDoor
open Go.RowKit
theorem pairsV_take (L : List (Int × Int)) : ∀ i, pairsV (L.take i) = (pairsV L).take (i * 2) := by
  induction L with
  | nil => intro i; simp [pairsV]
  | cons p r ih =>
    intro i
    cases i with
    | zero => simp [pairsV]
    | succ i => rw [show (i + 1) * 2 = i * 2 + 1 + 1 by omega]; simp [pairsV, ih i]
theorem pairsV_dropN (L : List (Int × Int)) : ∀ i, pairsV (L.drop i) = (pairsV L).drop (i * 2) := by
  induction L with
  | nil => intro i; simp [pairsV]
  | cons p r ih =>
    intro i
    cases i with
    | zero => simp
    | succ i => rw [show (i + 1) * 2 = i * 2 + 1 + 1 by omega]; simp [pairsV, ih i]
theorem take_cells2 {w : World} {base g n c : Nat} {e : TypeId} {L : List (Int × Int)} (h : w.ownsRow base e 2 (.slice (some ⟨g, 0, none⟩) n c) n (pairsV L)) (i : Nat) : ∀ j u, (pairsV (L.take i))[j]? = some u → w.cell? ((⟨g, 0, none⟩ : Addr).add j) = some u := by
  intro j u hu
  refine h.cells rfl j u ?_
  rw [pairsV_take, List.getElem?_take] at hu
  split at hu
  · exact hu
  · cases hu
theorem drop_cells2 {w : World} {base g n c : Nat} {e : TypeId} {L : List (Int × Int)} (h : w.ownsRow base e 2 (.slice (some ⟨g, 0, none⟩) n c) n (pairsV L)) (i : Nat) : ∀ j u, (pairsV (L.drop i))[j]? = some u → w.cell? ((⟨g, i * 2, none⟩ : Addr).add j) = some u := by
  intro j u hu
  rw [pairsV_dropN, List.getElem?_drop] at hu
  have hh := h.cells rfl (i * 2 + j) u hu
  rw [add_none] at hh ⊢
  rw [Nat.zero_add] at hh
  exact hh
end Go.Proofs.YtcegmlogjbnoeaaDoor
