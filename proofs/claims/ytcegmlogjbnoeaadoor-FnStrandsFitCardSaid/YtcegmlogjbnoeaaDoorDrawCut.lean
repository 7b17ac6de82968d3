/- What is drawn for the laws FnLengthsValid, FnCutLeast and FnCutBest. -/
import Derived.Test.YtcegmlogjbnoeaaDoorDrawL
namespace Go.Proofs.YtcegmlogjbnoeaaDoor
open Go.RowKit
set_option linter.unusedVariables false
/-- drawn lengths -/
def DrawnL (w : World) (e : Ending) (w' : World) : Prop := ∃ (A : Option Addr) (n c : Nat) (L : List Int), e = .returned (.slice A n c) ∧ L.length = n ∧ n ≤ 9 ∧ w'.ownsRow w.heap.size 3 1 (.slice A n c) n (intsV .i64 L) ∧ Below w.heap.size w w'
section
variable {w : World} {A : Option Addr} {n c : Nat} {xs : List Int}
set_option maxHeartbeats 1000000 in
theorem drawLengths_st (hl : xs.length = n) (hc : n ≤ c) (rd : RdI .u8 w w.heap.size A xs) (hn : n ≤ 1048576) (hx : ∀ x ∈ xs, 0 ≤ x ∧ x ≤ 255) :
    Calls Tryd.prog 26 #[.slice A n c] w (DrawnL w) := by
  go_enter Tryd.func26, Tryd.ntmps26
  go_wp2_with (fail)
  refine (open_st hl hc rd hn hx).mono ?_
  rintro e w1 ⟨rfl, st1, hz1⟩
  go_wp2_with (fail)
  refine (lengths_st st1 (by omega) (by omega) (by omega)).mono ?_
  rintro e w3 ⟨A4, n4, c4, L, rfl, hL, hn9, os⟩
  go_wp2
  go_ret
  exact ⟨A4, n4, c4, L, rfl, hL, hn9, own_lower os.own (by omega), os.st.below (Nat.le_refl _) (Nat.le_refl _)⟩
/-- a drawn length and drawn lengths -/
def DrawnCL (w : World) (e : Ending) (w' : World) : Prop := ∃ (v : Int) (A : Option Addr) (n c : Nat) (L : List Int), e = .returned (.tuple #[.int .i64 v, .slice A n c]) ∧ -70 ≤ v ∧ v ≤ 121 ∧ L.length = n ∧ n ≤ 9 ∧ w'.ownsRow w.heap.size 3 1 (.slice A n c) n (intsV .i64 L) ∧ Below w.heap.size w w'
set_option maxHeartbeats 1000000 in
theorem drawCut_st (hl : xs.length = n) (hc : n ≤ c) (rd : RdI .u8 w w.heap.size A xs) (hn : n ≤ 1048576) (hx : ∀ x ∈ xs, 0 ≤ x ∧ x ≤ 255) :
    Calls Tryd.prog 35 #[.slice A n c] w (DrawnCL w) := by
  go_enter Tryd.func35, Tryd.ntmps35
  go_wp2_with (fail)
  refine (open_st hl hc rd hn hx).mono ?_
  rintro e w1 ⟨rfl, st1, hz1⟩
  go_wp2_with (fail)
  refine (long_st st1 (by omega)).mono ?_
  rintro e w2 ⟨v, rfl, v0, v1, st2, hz2⟩
  go_wp2_with (fail)
  refine (lengths_st st2 (by omega) (by omega) (by omega)).mono ?_
  rintro e w3 ⟨A4, n4, c4, L, rfl, hL, hn9, os⟩
  go_wp2
  go_ret2
  exact ⟨v, A4, n4, c4, L, rfl, v0, v1, hL, hn9, own_lower os.own (by omega), os.st.below (Nat.le_refl _) (Nat.le_refl _)⟩
set_option maxHeartbeats 1000000 in
theorem drawCutBest_st (hl : xs.length = n) (hc : n ≤ c) (rd : RdI .u8 w w.heap.size A xs) (hn : n ≤ 1048576) (hx : ∀ x ∈ xs, 0 ≤ x ∧ x ≤ 255) :
    Calls Tryd.prog 48 #[.slice A n c] w (DrawnCL w) := by
  go_enter Tryd.func48, Tryd.ntmps48
  go_wp2_with (fail)
  refine (drawCut_st hl hc rd hn hx).mono ?_
  rintro e w1 ⟨v, A4, n4, c4, L, rfl, v0, v1, hL, hn9, own, be⟩
  go_wp2
  go_ret2
  exact ⟨v, A4, n4, c4, L, rfl, v0, v1, hL, hn9, own, be⟩
end
/-- a drawn row of ints, in a later world -/
structure GI (w wk : World) (A : Option Addr) (L : List Int) : Prop where
  be : Below w.heap.size w wk
  rd : RdI .i64 wk wk.heap.size A L
theorem GI.next {w wk w' : World} {A : Option Addr} {L : List Int} (h : GI w wk A L) (hb : Below wk.heap.size wk w') : GI w w' A L :=
  ⟨h.be.trans (hb.mono h.be.size), h.rd.up hb hb.size⟩
end Go.Proofs.YtcegmlogjbnoeaaDoor
