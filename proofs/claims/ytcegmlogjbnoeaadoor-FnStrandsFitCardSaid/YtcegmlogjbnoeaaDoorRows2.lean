/- Drawn rows, in a later world. -/
import Derived.Test.YtcegmlogjbnoeaaDoorDrawCut
namespace Go.Proofs.YtcegmlogjbnoeaaDoor
open Go.RowKit
set_option linter.unusedVariables false
/-- a row of pairs, in a later world -/
structure GP (w wk : World) (A : Option Addr) (L : List (Int × Int)) : Prop where
  be : Below w.heap.size w wk
  rd : RdP wk wk.heap.size A L
theorem GP.next {w wk w' : World} {A : Option Addr} {L : List (Int × Int)} (h : GP w wk A L) (hb : Below wk.heap.size wk w') : GP w w' A L :=
  ⟨h.be.trans (hb.mono h.be.size), h.rd.up hb hb.size⟩
theorem pairs_at' {E : TypeId} {L : List (Int × Int)} {n : Nat} {w w' : World} {e : Ending} (h : PairsRow E L w e w') (hn : L.length = n) : ∃ A c, e = .returned (.slice A n c) ∧ w'.ownsRow w.heap.size E 2 (.slice A n c) n (pairsV L) ∧ Below w.heap.size w w' := by
  subst hn; exact h
theorem RdI.dN {w : World} {A : Option Addr} {L : List Int} (h : RdI .i64 w w.heap.size A L) (k : Nat) : RdI .i64 (w.drewN k) (w.drewN k).heap.size A L := h
/-- a row of ints of the caller's own, in a later world -/
structure IO1 (w wk : World) (e : TypeId) (v : Value) (n : Nat) (L : List Int) : Prop where
  be : Below w.heap.size w wk
  own : wk.ownsRow w.heap.size e 1 v n (intsV .i64 L)
theorem IO1.next {w wk w' : World} {e : TypeId} {v : Value} {n : Nat} {L : List Int} (h : IO1 w wk e v n L) (hb : Below wk.heap.size wk w') : IO1 w w' e v n L :=
  ⟨h.be.trans (hb.mono h.be.size), own_below h.own hb⟩
theorem IO1.rd {w wk : World} {e : TypeId} {A : Option Addr} {n c : Nat} {L : List Int} (h : IO1 w wk e (.slice A n c) n L) : RdI .i64 wk wk.heap.size A L := RdI.of_own h.own
theorem own_form0 {w : World} {base : Nat} {e : TypeId} {size n : Nat} {v : Value} {xs : List Value} (h : w.ownsRow base e size v n xs) : ∃ A c, v = .slice A n c := by
  rcases h.2 with ⟨hv, h0⟩ | ⟨g, cap, cur, hv, _⟩
  · exact ⟨none, 0, by rw [hv, h0]⟩
  · exact ⟨_, cap, hv⟩
theorem take_cells1 {w : World} {base g n c : Nat} {e : TypeId} {xs : List Int} (h : w.ownsRow base e 1 (.slice (some ⟨g, 0, none⟩) n c) n (intsV .i64 xs)) (i : Nat) : ∀ j u, (intsV .i64 (xs.take i))[j]? = some u → w.cell? ((⟨g, 0, none⟩ : Addr).add j) = some u := by
  intro j u hu
  refine h.cells rfl j u ?_
  simp only [intsV, List.map_take] at hu ⊢
  rw [List.getElem?_take] at hu
  split at hu
  · exact hu
  · cases hu
theorem own_tail1 {w : World} {base g n c : Nat} {e : TypeId} {L : List Int} (h : w.ownsRow base e 1 (.slice (some ⟨g, 0, none⟩) n c) n (intsV .i64 L)) : RdI .i64 w w.heap.size (some ⟨g, 1, none⟩) (L.drop 1) := fun j x hj => by
  have h2 := RdI.of_own h (1 + j) x (by rw [← List.getElem?_drop]; exact hj)
  obtain ⟨b, off, e1, hb, c1⟩ := h2
  injection e1 with e1
  injection e1 with e2 e3
  subst e2 e3
  exact ⟨g, 1, rfl, hb, by rw [show 1 + j = 0 + (1 + j) by omega]; exact c1⟩
end Go.Proofs.YtcegmlogjbnoeaaDoor
