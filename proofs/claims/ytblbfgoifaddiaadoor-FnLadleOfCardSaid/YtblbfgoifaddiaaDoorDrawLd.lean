/- What is drawn for the law FnLadleOf. -/
import Derived.Test.YtblbfgoifaddiaaDoorDrawLo
namespace Go.Proofs.YtblbfgoifaddiaaDoor
open Go.RowKit
set_option linter.unusedVariables false
set_option linter.unusedSimpArgs false
set_option maxRecDepth 100000 in
set_option maxHeartbeats 1000000 in
theorem drawLadle_st {w : World} {A : Option Addr} {n c : Nat} {xs : List Int} (hl : xs.length = n) (hc : n ≤ c) (rd : RdI .u8 w w.heap.size A xs) (hn : n ≤ 1048576) (hx : ∀ x ∈ xs, 0 ≤ x ∧ x ≤ 255) :
    Calls Tryd.prog 7 #[.slice A n c] w (DrawnLo w) := by
  have tA : Below w.heap.size w (w.alloc (.cells #[.int .i64 0, .int .i64 0] 25)) := (Below.refl _ w).alloc (Nat.le_refl _) _
  have x1 : BX (w.alloc (.cells #[.int .i64 0, .int .i64 0] 25)) w.heap.size [.int .i64 0, .int .i64 0] := BX.made _ _
  have hs1 : (w.alloc (.cells #[.int .i64 0, .int .i64 0] 25)).heap.size = w.heap.size + 1 := by simp
  go_enter Tryd.func7, Tryd.ntmps7
  go_wp2_with (fail)
  generalize w.alloc (.cells #[.int .i64 0, .int .i64 0] 25) = w1 at *
  refine (open_st hl hc (rd.up tA tA.size) hn hx).mono ?_
  rintro e w2 ⟨rfl, st2, hz2⟩
  rw [hs1] at st2
  clear rd hx hl hc
  go_wp2_with (fail)
  refine (cast_st st2 (by omega)).mono ?_
  rintro e w3 ⟨A4, m, c4, L, f, s, A5, m5, c5, M, rfl, hL, hm7, hM, hm9, oh, ot, st3⟩
  have x3 := x1.draw st3 (by omega)
  have p0 := x3.at_ 0 _ rfl
  have p1 := x3.at_ 1 _ rfl
  have g0 := x3.fz 0
  have g1 := x3.fz 1
  have b3 : Below w.heap.size w w3 := tA.trans (st3.below (by omega) (by omega))
  have oh' := own_lower (base' := w.heap.size) (own_other (own_other oh (grownSet _ w.heap.size 0 (.int .i64 f)) (fun q hq => by have := own_ge oh hq; omega)) (grownSet _ w.heap.size 1 (.int .i64 s)) (fun q hq => by have := own_ge oh hq; omega)) (by omega)
  have ot' := own_lower (base' := w.heap.size) (own_other (own_other ot (grownSet _ w.heap.size 0 (.int .i64 f)) (fun q hq => by have := own_ge ot hq; omega)) (grownSet _ w.heap.size 1 (.int .i64 s)) (fun q hq => by have := own_ge ot hq; omega)) (by omega)
  have OH := Lib.hid oh'
  have OT := Lib.hid ot'
  have B3 := Lib.hid ((b3.setCell (p := ⟨w.heap.size, 0, none⟩) (Nat.le_refl _) (.int .i64 f)).setCell (p := ⟨w.heap.size, 1, none⟩) (Nat.le_refl _) (.int .i64 s))
  clear oh ot oh' ot' b3 st3 st2 x1 x3 tA
  go_wp2
  exact bodyPost_ret (v := .tuple #[.slice A4 m c4, .agg #[.int .i64 f, .int .i64 s], .slice A5 m5 c5]) (by simp [results, Tryd.results7, go_sem, p0, p1]) rfl ⟨A4, m, c4, L, f, s, A5, m5, c5, M, rfl, hL, hm7, hM, hm9, OH.out, OT.out, B3.out⟩
end Go.Proofs.YtblbfgoifaddiaaDoor
