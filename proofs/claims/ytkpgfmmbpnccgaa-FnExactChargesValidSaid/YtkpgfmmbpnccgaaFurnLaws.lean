/- The walks of the laws that compare the program with the reference on furnaces. -/
import Derived.Test.YtkpgfmmbpnccgaaFurnWalk
namespace Go.Proofs.Ytkpgfmmbpnccgaa
open Go.RowKit
set_option linter.unusedVariables false
theorem szOf_lt {left : Int} {n : Nat} (h : left < n) : szOf left n < 0 := by rw [← szOf_neg h]; decide
theorem szOf_ge {left : Int} {n : Nat} (h : (n : Int) ≤ left) : 0 ≤ szOf left n := by rw [← szOf_ok h]; omega
theorem szOf_le {left : Int} {n : Nat} (h : (n : Int) ≤ left) : szOf left n ≤ left := by rw [← szOf_ok h]; omega

theorem walkFnExactFurnaceValid (w : World) (r p : Int) (_ : (Lit.int .i64 r).wf = true) (_ : (Lit.int .i64 p).wf = true) :
    Calls Try.prog 4 #[.agg #[.int .i64 r, .int .i64 p]] w fun e w' => e = .returned (.bool true) ∧ Below w.heap.size w w' := by
  go_enter Try.func4, Try.ntmps4
  go_wp2_with (fail)
  refine (toFurnace_any _ _ _).mono ?_
  rintro e w1 ⟨rfl, hb1⟩
  obtain ⟨hc1, hf1⟩ := bcell hb1
  have hz1 : w.heap.size < w1.heap.size := by have := hb1.size; simp at this; omega
  go_wp2_with (fail)
  refine (specFurn_any _ _ _).mono ?_
  rintro e w2 ⟨rfl, hb2⟩
  obtain ⟨hc2, hf2⟩ := bcell hb2
  have hz2 : w.heap.size < w2.heap.size := by have := hb2.size; omega
  go_wp2_with (fail)
  refine (toFurnace_any _ _ _).mono ?_
  rintro e w3 ⟨rfl, hb3⟩
  obtain ⟨hc3, hf3⟩ := bcell hb3
  have hz3 : w.heap.size < w3.heap.size := by have := hb3.size; omega
  go_wp2_with (fail)
  refine (implFurn_any _ _ _).mono ?_
  rintro e w4 ⟨rfl, hb4⟩
  go_wp2
  go_ret
  have g1 := below_next (below_next (below_next (below_boxed hb1) hb2) hb3) hb4
  exact ⟨rfl, g1⟩
set_option maxRecDepth 100000 in
set_option maxHeartbeats 1000000 in
theorem walkFnExactChargesValid (w : World) (A0 : Option Addr) (n0 c0 : Nat) (xs0 : List (Int × Int)) (hl0 : xs0.length = n0) (rd0 : RdP w w.heap.size A0 xs0) (bd0 : n0 ≤ maxLen) (_ : ∀ x ∈ xs0, (Lit.int .i64 x.1).wf = true ∧ (Lit.int .i64 x.2).wf = true) :
    Calls Try.prog 7 #[.slice A0 n0 c0] w fun e w' => e = .returned (.bool true) ∧ Below w.heap.size w w' := by
  have HL0 := Lib.hid hl0
  clear hl0
  unfold maxLen at bd0
  by_cases hs0 : 1048576 < (n0 : Int)
  · have hz0 := szOf_lt hs0
    go_enter Try.func7, Try.ntmps7
    go_wp2_with ((go_at_call 25; refine (szChargeS_any _ _ _ _ _ (by omega) (by omega) (by unfold maxLen; omega)).mono ?_; rintro e w' ⟨rfl, rfl⟩))
    go_ret
    exact ⟨rfl, (by repeat' (first | exact Below.refl _ _ | assumption | refine Below.alloc ?_ (by first | omega | (simp; done) | (simp; omega)) _ | refine Below.setCell ?_ (by first | omega | (simp; done) | (simp; omega)) _ | refine Below.drew ?_ | refine below_drawn ?_ _))⟩
  have hz0 := szOf_ge (left := 1048576) (n := n0) (by omega)
  have hy0 := szOf_le (left := 1048576) (n := n0) (by omega)
  have hn0 : n0 ≤ 1048576 := by omega
  go_enter Try.func7, Try.ntmps7
  go_wp2_with ((go_at_call 25; refine (szChargeS_any _ _ _ _ _ (by omega) (by omega) (by unfold maxLen; omega)).mono ?_; rintro e w' ⟨rfl, rfl⟩))
  go_wp2_with (fail)
  refine (toChargeS_any _ _ _ xs0 _ HL0.out rd0 (by omega)).mono ?_
  rintro e w1 ⟨rfl, o1, hb1⟩
  have t1 := hb1
  obtain ⟨hc1, hf1⟩ := bcell hb1
  go_wp2_with (fail)
  refine (specCharges_any _ _ _ xs0 _ HL0.out (RdP.of_own o1) (by omega)).mono ?_
  rintro e w' ⟨rfl, rfl⟩
  go_wp2_with (fail)
  refine (toChargeS_any _ _ _ xs0 _ HL0.out (rd0.up t1 t1.size) (by omega)).mono ?_
  rintro e w2 ⟨rfl, o2, hb2⟩
  have t2 := below_next t1 hb2
  obtain ⟨hc2, hf2⟩ := bcell hb2
  go_wp2_with (fail)
  refine (implCharges_any _ _ _ xs0 _ HL0.out (RdP.of_own o2) (by omega)).mono ?_
  rintro e w3 ⟨rfl, hb3⟩
  have t3 := below_next t2 hb3
  obtain ⟨hc3, hf3⟩ := bcell hb3
  have o2 := own_below o2 hb3
  go_wp2_with (fail)
  refine (toChargeS_any _ _ _ xs0 _ HL0.out (rd0.up t3 t3.size) (by omega)).mono ?_
  rintro e w4 ⟨rfl, o3, hb4⟩
  have t4 := below_next t3 hb4
  obtain ⟨hc4, hf4⟩ := bcell hb4
  have o2 := own_below o2 hb4
  go_wp2_with (fail)
  refine (eqChargeS_same _ _ _ _ _ xs0 _ HL0.out (RdP.of_own o2) (RdP.of_own o3) (by omega)).mono ?_
  rintro e w5 ⟨rfl, hb5⟩
  have t5 := below_next t4 hb5
  obtain ⟨hc5, hf5⟩ := bcell hb5
  have o2 := own_below o2 hb5
  go_wp2
  go_ret
  exact ⟨rfl, t5⟩
end Go.Proofs.Ytkpgfmmbpnccgaa
