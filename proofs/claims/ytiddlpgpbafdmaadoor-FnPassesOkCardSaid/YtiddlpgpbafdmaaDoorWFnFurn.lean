/- The walk of the law FnFurnaceValid. -/
import Derived.Test.YtiddlpgpbafdmaaDoorDrawF2
import Derived.Test.YtiddlpgpbafdmaaDoorAlive
import Derived.Test.YtiddlpgpbafdmaaDoorFurnWalk
namespace Go.Proofs.YtiddlpgpbafdmaaDoor
open Go.RowKit
set_option linter.unusedVariables false
theorem furn_room {r p : Int} (h : furnOk r p = true) : furnOk r 0 = true := by
  simp only [furnOk, Bool.and_eq_true] at h ⊢
  exact ⟨h.1, inB_true (by omega) (by omega)⟩
theorem furn_none (p : Int) : furnOk 0 p = false := by simp [furnOk, inB]
/-- the drawn furnace lies in block b -/
structure FX (w wk : World) (b : Nat) (r p : Int) : Prop where
  be : Below w.heap.size w wk
  lt : b < wk.heap.size
  x : wk.cell? ⟨b, 0, none⟩ = some (.int .i64 r)
  y : wk.cell? ⟨b, 1, none⟩ = some (.int .i64 p)
theorem FX.next {w wk w' : World} {b : Nat} {r p : Int} (h : FX w wk b r p) (hb : Below wk.heap.size wk w') : FX w w' b r p :=
  ⟨h.be.trans (hb.mono h.be.size), Nat.lt_of_lt_of_le h.lt hb.size, (hb.cell h.lt).trans h.x, (hb.cell h.lt).trans h.y⟩
set_option maxHeartbeats 4000000 in
theorem walkFnFurnaceValid (w : World) (A : Option Addr) (n c : Nat) (xs : List Int) (hl : xs.length = n) (rd : RdI .u8 w w.heap.size A xs) (hc : n ≤ c) (hx : ∀ x ∈ xs, 0 ≤ x ∧ x ≤ 255) :
    Calls Tryd.prog 3 #[.slice A n c] w fun e w' => e = .returned (.bool true) ∧ Below w.heap.size w w' := by
  by_cases hs0 : 1048576 < (n : Int)
  · go_enter Tryd.func3, Tryd.ntmps3
    go_wp2
    go_ret
    exact ⟨rfl, Below.refl _ _⟩
  have hn : n ≤ 1048576 := by omega
  go_enter Tryd.func3, Tryd.ntmps3
  go_wp2_with (fail)
  refine (drawFurn_st hl hc rd hn hx).mono ?_
  rintro e w1 ⟨r, p, rfl, hb⟩
  clear rd hx hl hc
  have hs1 := hb.size
  have hn0 := furn_none p
  have fx0 : FX w (w1.alloc (.cells #[.int .i64 r, .int .i64 p] 24)) w1.heap.size r p := ⟨hb.alloc hs1 _, by simp, by go_simp, by go_simp⟩
  cases hv : furnOk r p
  · clear hb
    go_wp2_with (first
      | (go_at_call 16; refine (implFurn_any _ _ _).mono ?_; rintro e w2 ⟨rfl, hb2⟩; have fx := FX.next (by assumption) hb2; have cx := fx.x; have cy := fx.y)
      | (go_at_call 17; refine (specFurn_any _ _ _).mono ?_; rintro e w2 ⟨rfl, hb2⟩; have fx := FX.next (by assumption) hb2; have cx := fx.x; have cy := fx.y)
      | (go_at_call 18; refine (alive_any _).mono ?_; rintro e w2 ⟨rfl, hb2⟩; have fx := FX.next (by assumption) hb2))
    go_ret
    exact ⟨rfl, fx.be⟩
  · have hv2 := furn_room hv
    clear hb
    go_wp2_with (first
      | (go_at_call 16; refine (implFurn_any _ _ _).mono ?_; rintro e w2 ⟨rfl, hb2⟩; have fx := FX.next (by assumption) hb2; have cx := fx.x; have cy := fx.y)
      | (go_at_call 17; refine (specFurn_any _ _ _).mono ?_; rintro e w2 ⟨rfl, hb2⟩; have fx := FX.next (by assumption) hb2; have cx := fx.x; have cy := fx.y)
      | (go_at_call 18; refine (alive_any _).mono ?_; rintro e w2 ⟨rfl, hb2⟩; have fx := FX.next (by assumption) hb2))
    go_ret
    exact ⟨rfl, fx.be⟩
end Go.Proofs.YtiddlpgpbafdmaaDoor
