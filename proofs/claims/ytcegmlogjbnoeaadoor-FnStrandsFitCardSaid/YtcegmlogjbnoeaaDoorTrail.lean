/- 'bits.TrailingZeros' at small numbers, out of the library's table in its variable: the shelf's contract, laid at this program. -/
import Derived.Test.YtcegmlogjbnoeaaDoorProg
import Derived.Test.YtcegmlogjbnoeaaDoorLeaf
import Derived.Test.YtcegmlogjbnoeaaDoorMem
import Derived.Shelf.Spec.TrailingZeros
import Derived.KernelRfl
namespace Go.Proofs.YtcegmlogjbnoeaaDoor
open Go.RowKit Go.Shelf
set_option linter.unusedVariables false
theorem tab_up {g : Nat} {tab : List Nat} {B : Nat} {w w' : World} (h : TabAt g tab w) (hg : g < B) (hb : Below B w w') : TabAt g tab w' := fun j hj => (hb.cell (p := ⟨g, j, none⟩) hg).trans (h j hj)
/-- the shelf's numbers at this program -/
def rho : Ren := ⟨fun i => if i = 27 then 82 else if i = 28 then 90 else 91,
  fun i => if i = 0 then 0 else if i = 3 then 3 else if i = 4 then 4 else if i = 5 then 5 else if i = 22 then 91 else if i = 25 then 80 else if i = 27 then 89 else if i = 53 then 94 else 95,
  fun i => i⟩
theorem laysTZ : Lays7.n27 Tryd.prog rho := by
  constructor
  all_goals first | kernel_rfl | (intro w; kernel_rfl)
theorem tz_any (x : Nat) (hx : x < 256) (h0 : 0 < x) (w : World) (hT : TabAt 1 Lib.deBruijn64tab w) :
    Calls Tryd.prog 82 #[.int .u64 x] w fun e w' => e = .returned (.int .i64 (Lib.ctz 64 x : Nat)) ∧ w = w' :=
  (Any7.bits_TrailingZeros laysTZ x (by omega) w (fun _ => hT)).mono fun e w' h => ⟨h.1, h.2.symm⟩
end Go.Proofs.YtcegmlogjbnoeaaDoor
