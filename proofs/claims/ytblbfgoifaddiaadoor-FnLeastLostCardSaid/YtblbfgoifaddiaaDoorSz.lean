/- The size guards of the laws. -/
import Derived.Test.YtblbfgoifaddiaaDoorCopy
import Derived.Deep.RegionHeld3
import Derived.Deep.DeepMust
namespace Go.Proofs.YtblbfgoifaddiaaDoor
open Go.RowKit
theorem below_boxed_drew {w w1 : World} {o : Obj} (h : Below (w.alloc o).drew.heap.size (w.alloc o).drew w1) : Below w.heap.size w w1 := below_boxed (o := o) ⟨h.os, h.tape, h.output, h.size, h.block⟩
theorem below_next_drew {w w1 w2 : World} (h : Below w.heap.size w w1) (k : Below w1.drew.heap.size w1.drew w2) : Below w.heap.size w w2 := below_next h ⟨k.os, k.tape, k.output, k.size, k.block⟩
theorem below_of_drew {w1 w2 : World} (k : Below w1.drew.heap.size w1.drew w2) : Below w1.heap.size w1 w2 := ⟨k.os, k.tape, k.output, k.size, k.block⟩
theorem PairsRow.at_ {E : TypeId} {L : List (Int × Int)} {w w' : World} {e : Ending} {n : Nat} (h : PairsRow E L w e w') (hn : L.length = n) :
    ∃ A c, e = .returned (.slice A n c) ∧ w'.ownsRow w.heap.size E 2 (.slice A n c) n (pairsV L) ∧ Below w.heap.size w w' := by subst hn; exact h
theorem IntsRow.at_ {E : TypeId} {L : List Int} {w w' : World} {e : Ending} {n : Nat} (h : IntsRow E L w e w') (hn : L.length = n) :
    ∃ A c, e = .returned (.slice A n c) ∧ w'.ownsRow w.heap.size E 1 (.slice A n c) n (intsV .i64 L) ∧ Below w.heap.size w w' := by subst hn; exact h
theorem own_apart {w w' : World} {base : Nat} {e : TypeId} {size n : Nat} {v v' : Value} {xs : List Value} {a1 b1 a2 b2 : Nat} (h : w.ownsRow base e size v n xs) (hg : w.grownBy w' v'.ownBlock)
    (l1 : ∀ k, v.ownBlock = some k → a1 ≤ k ∧ k < b1) (l2 : ∀ k, v'.ownBlock = some k → a2 ≤ k ∧ k < b2) (hd : b1 ≤ a2 ∨ b2 ≤ a1) : w'.ownsRow base e size v n xs :=
  h.kept hg (by
    cases hv : v.ownBlock with
    | none => exact .inl rfl
    | some k =>
      refine .inr fun e => ?_
      have h1 := l1 k hv
      have h2 := l2 k e.symm
      omega)
theorem szOf_lt {left : Int} {n : Nat} (h : left < n) : szOf left n < 0 := by rw [← szOf_neg h]; decide
theorem szOf_ge {left : Int} {n : Nat} (h : (n : Int) ≤ left) : 0 ≤ szOf left n := by rw [← szOf_ok h]; omega
theorem szOf_le {left : Int} {n : Nat} (h : (n : Int) ≤ left) : szOf left n ≤ left := by rw [← szOf_ok h]; omega
end Go.Proofs.YtblbfgoifaddiaaDoor
