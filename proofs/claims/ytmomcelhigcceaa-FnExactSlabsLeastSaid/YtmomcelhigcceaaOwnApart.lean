/- Rows of one call's own whose elements are of different types lie in different blocks: what is done to one leaves the other. Over any program. -/
import Derived.Test.YtmomcelhigcceaaAppend
namespace Go.Proofs.Ytmomcelhigcceaa
open Go.RowKit
set_option linter.unusedVariables false
theorem own_tag {w : World} {base : Nat} {e : TypeId} {size n : Nat} {v : Value} {xs : List Value} (h : w.ownsRow base e size v n xs) {k : Nat} (hk : v.ownBlock = some k) : ∃ cur, w.heap[k]? = some (.cells cur e (0, 0)) := by
  rcases h.2 with ⟨rfl, _⟩ | ⟨g, cap, cur, rfl, _, hg, _⟩
  · simp [Value.ownBlock] at hk
  · simp only [Value.ownBlock, Option.some.injEq] at hk
    subst hk
    exact ⟨cur, hg⟩
theorem own_ne {w : World} {b1 b2 : Nat} {e1 e2 : TypeId} {s1 s2 n1 n2 : Nat} {v1 v2 : Value} {xs1 xs2 : List Value} (h1 : w.ownsRow b1 e1 s1 v1 n1 xs1) (h2 : w.ownsRow b2 e2 s2 v2 n2 xs2) (hne : e1 ≠ e2) {k : Nat} (hk : v1.ownBlock = some k) : v2.ownBlock ≠ some k := by
  intro hk2
  obtain ⟨c1, g1⟩ := own_tag h1 hk
  obtain ⟨c2, g2⟩ := own_tag h2 hk2
  rw [g1] at g2
  simp only [Option.some.injEq, Obj.cells.injEq] at g2
  exact hne g2.2.1
/-- a store into a row of another type leaves this one -/
theorem own_types {w w' : World} {b1 b2 : Nat} {e1 e2 : TypeId} {s1 s2 n1 n2 : Nat} {v1 v2 : Value} {xs1 xs2 : List Value} (h1 : w.ownsRow b1 e1 s1 v1 n1 xs1) (h2 : w.ownsRow b2 e2 s2 v2 n2 xs2) (hg : w.grownBy w' v2.ownBlock) (hne : e1 ≠ e2) : w'.ownsRow b1 e1 s1 v1 n1 xs1 :=
  h1.kept hg (by
    cases hv : v1.ownBlock with
    | none => exact .inl rfl
    | some k => exact .inr (own_ne h1 h2 hne hv).symm)
theorem own_cap {w : World} {base : Nat} {e : TypeId} {size n c : Nat} {A : Option Addr} {xs : List Value} (h : w.ownsRow base e size (.slice A n c) n xs) : n ≤ c := by
  rcases h.2 with ⟨hv, h0⟩ | ⟨g, cap, cur, hv, _, _, hc, _⟩
  · injection hv with _ _ h3; omega
  · injection hv with _ _ h3; omega
end Go.Proofs.Ytmomcelhigcceaa
