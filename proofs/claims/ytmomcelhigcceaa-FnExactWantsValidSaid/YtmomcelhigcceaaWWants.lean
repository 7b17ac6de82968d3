/- The walk of the law FnExactWantsValid: it calls the reference and the program on copies, compares, and finds the arguments unchanged. -/
import Derived.Test.YtmomcelhigcceaaCutWalk
import Derived.Test.YtmomcelhigcceaaSz
namespace Go.Proofs.Ytmomcelhigcceaa
open Go.RowKit
set_option linter.unusedVariables false
set_option maxRecDepth 100000 in
set_option maxHeartbeats 4000000 in
theorem walkFnExactWantsValid (w : World) (A0 : Option Addr) (n0 c0 : Nat) (xs0 : List Int) (hl0 : xs0.length = n0) (rd0 : RdI .i64 w w.heap.size A0 xs0) (bd0 : n0 ≤ maxLen) (_ : ∀ x ∈ xs0, (Lit.int .i64 x).wf = true) (a1 : Int) (_ : (Lit.int .i64 a1).wf = true) :
    Calls Try.prog 3 #[.slice A0 n0 c0, .int .i64 a1] w fun e w' => e = .returned (.bool true) ∧ Below w.heap.size w w' := by
  have HL0 := Lib.hid hl0
  clear hl0
  unfold maxLen at bd0
  by_cases hs0 : (1048576 : Int) < (n0 : Int)
  · go_enter Try.func3, Try.ntmps3
    go_wp2
    go_ret
    exact ⟨rfl, (by repeat' (first | exact Below.refl _ _ | assumption | refine Below.alloc ?_ (by first | omega | (simp; done) | (simp; omega)) _ | refine Below.setCell ?_ (by first | omega | (simp; done) | (simp; omega)) _ | refine Below.drew ?_ | refine below_drawn ?_ _))⟩
  have hn0 : n0 ≤ 1048576 := by omega
  go_enter Try.func3, Try.ntmps3
  go_wp2_with (fail)
  refine (toIntS_any _ _ _ xs0 _ HL0.out rd0 (by omega)).mono ?_
  rintro e w1 ⟨rfl, o1, hb1⟩
  have t1 := hb1
  have hs1' : w.heap.size ≤ w1.heap.size := (by (have := hb1.size; (try simp at this); omega))
  go_wp2_with (fail)
  refine (specWants_any _ _ _ xs0 a1 _ HL0.out (RdI.of_own o1) (by omega)).mono ?_
  rintro e w' ⟨rfl, rfl⟩
  go_wp2_with (fail)
  refine (toIntS_any _ _ _ xs0 _ HL0.out (rd0.up t1 t1.size) (by omega)).mono ?_
  rintro e w2 ⟨rfl, o2, hb2⟩
  have t2 := below_next t1 hb2
  have hs2' : w1.heap.size ≤ w2.heap.size := (by (have := hb2.size; (try simp at this); omega))
  go_wp2_with (fail)
  refine (implWants_any _ _ _ xs0 a1 _ HL0.out (RdI.of_own o2) (by omega)).mono ?_
  rintro e w' ⟨rfl, rfl⟩
  go_wp2_with (fail)
  refine (toIntS_any _ _ _ xs0 _ HL0.out (rd0.up t2 t2.size) (by omega)).mono ?_
  rintro e w3 ⟨rfl, o3, hb3⟩
  have t3 := below_next t2 hb3
  have hs3' : w2.heap.size ≤ w3.heap.size := (by (have := hb3.size; (try simp at this); omega))
  have o2 := own_below o2 hb3
  go_wp2_with (fail)
  refine (eqIntS_same _ _ _ _ _ xs0 _ HL0.out (RdI.of_own o2) (RdI.of_own o3) (by omega)).mono ?_
  rintro e w4 ⟨rfl, hb4⟩
  have t4 := below_next t3 hb4
  have hs4' : w3.heap.size ≤ w4.heap.size := (by (have := hb4.size; (try simp at this); omega))
  have o2 := own_below o2 hb4
  go_wp2
  go_ret
  exact ⟨rfl, t4⟩
end Go.Proofs.Ytmomcelhigcceaa
