/- The library's table, out of the row's condition. -/
import Derived.Test.YtcegmlogjbnoeaaDoorTrail
import Derived.Test.YtcegmlogjbnoeaaDoorRows
import Derived.Lib.LaidTab
import Derived.MakeChecks
namespace Go.Proofs.YtcegmlogjbnoeaaDoor
open Go.RowKit
theorem tab_second {P : Program} {W : World} {n1 n2 : String} {d1 : DataW Unit} {k : IntKind} {zs : List Int} {rest : List (String × DataW Unit)} {g : Nat} {t e : TypeId} {n : Nat}
    (hg : P.globalNamed n2 = some g) (hty : (P.globals[g]?).map (·.type) = some t) (ht : P.underlying t = some (.array n e)) (he : P.underlying e = some (.int k)) (hce : P.cellsOf e = 1) (hct : P.cellsOf t = n)
    (h : laidMet P ((n1, d1) :: (n2, Lib.tabData k zs) :: rest) W) : Lib.TabIs P W n2 k zs := by
  obtain ⟨ps, ⟨g0, t0, cs0, f0, p0, q0, hg0, ht0, hv0, hd0, ⟨g1, t1, cs1, f1, p1, q1, hg1, ht1, hv1, hd1, _, _⟩, _⟩, _⟩ := h
  obtain rfl := Option.some.inj (hg.symm.trans hg1)
  obtain rfl := Option.some.inj (hty.symm.trans ht1)
  unfold Lib.TabIs
  rw [hv1, ← Lib.cells_of_tab ht he hce hct hd1]
theorem tab64 {W : World} {n1 n2 : String} {d1 d2 : DataW Unit} {rest : List (String × DataW Unit)} (hn : Tryd.prog.globalNamed n2 = some 1) (hd : d2 = Lib.tabData .u8 (Lib.deBruijn64tab.map fun (n : Nat) => (n : Int)))
    (h : laidMet Tryd.prog ((n1, d1) :: (n2, d2) :: rest) W) : TabAt 1 Lib.deBruijn64tab W := by
  subst hd
  have hT := tab_second (P := Tryd.prog) hn (show (Tryd.prog.globals[1]?).map (·.type) = some 95 by kernel_rfl) Tryd.underlying95 Tryd.underlying5 (by kernel_rfl) (by kernel_rfl) h
  intro j hj
  rw [hT.cell hn j (by simpa using hj)]
  simp [List.getD_eq_getElem?_getD, hj]
theorem tab_size {W : World} (h : TabAt 1 Lib.deBruijn64tab W) : 1 < W.heap.size := World.block_lt_of_cell? W _ (h 0 (by decide))
end Go.Proofs.YtcegmlogjbnoeaaDoor
