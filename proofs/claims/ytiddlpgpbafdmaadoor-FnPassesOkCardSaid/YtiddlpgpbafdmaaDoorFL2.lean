/- The drawn slabs and the drawn furnace, in a later world. -/
import Derived.Test.YtiddlpgpbafdmaaDoorDrawPE
import Derived.Test.YtiddlpgpbafdmaaDoorWFnFurn
namespace Go.Proofs.YtiddlpgpbafdmaaDoor
open Go.RowKit
set_option linter.unusedVariables false
/-- the drawn slabs and the drawn furnace, in a later world -/
structure FL (w wk : World) (b : Nat) (r p : Int) (A : Option Addr) (L : List (Int × Int)) : Prop where
  fx : FX w wk b r p
  rd : RdP wk wk.heap.size A L
theorem FL.next {w wk w' : World} {b : Nat} {r p : Int} {A : Option Addr} {L : List (Int × Int)} (h : FL w wk b r p A L) (hb : Below wk.heap.size wk w') : FL w w' b r p A L :=
  ⟨h.fx.next hb, h.rd.up hb hb.size⟩
end Go.Proofs.YtiddlpgpbafdmaaDoor
