/- A drawing world, as its caller keeps it: the caller's own new blocks. -/
import Derived.Test.YtblbfgoifaddiaaDoorRdr
namespace Go.Proofs.YtblbfgoifaddiaaDoor
open Go.RowKit
set_option linter.unusedVariables false
section
variable {W w w2 w' F : World} {R K K' : Nat}
theorem St.more (st : St W w R K) (h : K ≤ K') : St W w R K' := ⟨st.rd.more h, st.gr⟩
theorem St.lt (st : St W w R K) : R < w.heap.size := by obtain ⟨A, n, c, xs, p, a, _⟩ := st.rd; exact a.lt
/-- the caller makes a block of its own, draws on, and writes to what is its own -/
theorem St.own (st : St W w R K) (b2 : Below w.heap.size w w2) (st' : St w2 w' R K') (bF : Below w.heap.size w' F) : St W F R K' := by
  have lt := st.lt
  refine ⟨st'.rd.keep bF.size (fun k hk => bF.block k (by omega)), rd_grown_trans st.gr ⟨bF.os.trans (st'.gr.os.trans b2.os), bF.tape.trans (st'.gr.tape.trans b2.tape), bF.output.trans (st'.gr.output.trans b2.output), Nat.le_trans b2.size (Nat.le_trans st'.gr.size bF.size), fun k hk hr => ?_⟩⟩
  exact (bF.block k hk).trans ((st'.gr.block k (Nat.lt_of_lt_of_le hk b2.size) hr).trans (b2.block k hk))
theorem St.self (st : St W w R K) (b2 : Below w.heap.size w w2) : St w2 w2 R K :=
  ⟨st.rd.keep b2.size (fun k hk => b2.block k (by have := st.lt; omega)), rd_grown_refl _ _⟩
theorem St.cell {p : Addr} (st' : St w2 w' R K') (h : p.block < w2.heap.size) (hR : p.block ≠ R) : w'.cell? p = w2.cell? p := World.cell?_of_block (st'.gr.block _ h (fun e => hR (by injection e)))
theorem St.frz {p : Addr} (st' : St w2 w' R K') (h : p.block < w2.heap.size) (hR : p.block ≠ R) : w'.frozen? p = w2.frozen? p := World.frozen?_of_block (st'.gr.block _ h (fun e => hR (by injection e)))
end
theorem below_set2 (w : World) (b : Nat) (x y : Value) : Below b w ((w.setCell ⟨b, 0, none⟩ x).setCell ⟨b, 1, none⟩ y) :=
  Below.setCell (p := ⟨b, 1, none⟩) (Below.setCell (p := ⟨b, 0, none⟩) (Below.refl b w) (Nat.le_refl b) x) (Nat.le_refl b) y
end Go.Proofs.YtblbfgoifaddiaaDoor
